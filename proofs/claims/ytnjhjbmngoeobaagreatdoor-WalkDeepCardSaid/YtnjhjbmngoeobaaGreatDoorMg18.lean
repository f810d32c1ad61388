/- Laws towards WalkDeep: QueA. -/
import Derived.Test.YtnjhjbmngoeobaaGreatDoorMg16
import Derived.Test.YtnjhjbmngoeobaaGreatDoorMg17
import Derived.Deep.MidRow
namespace Go.Proofs.YtnjhjbmngoeobaaGreatDoor
open Go.RowKit Go.Maps
set_option maxRecDepth 100000
abbrev fv0 : Value := .func (.func 44) #[] #[]
def IdsU (q : List Id) : List Value := q.flatMap fun i => U i.1
theorem IdsU_snoc (q : List Id) (i : Id) : IdsU q ++ U i.1 = IdsU (q ++ [i]) := by simp [IdsU]
theorem IdsU_length (q : List Id) : (IdsU q).length = q.length * 32 := by
 induction q with
 | nil => rfl
 | cons i q ih =>
   have : IdsU (i :: q) = U i.1 ++ IdsU q := by simp [IdsU]
   rw [this, List.length_append, U_length, i.2, ih, List.length_cons]
   omega
structure QV (w : World) (g : Nat) (A : Option Addr) (n c : Nat) (q : List Id) : Prop where
 blk : Blk w g 119 #[.slice A n c, fv0]
 own : w.ownsRow 0 30 32 (.slice A n c) n (IdsU q)
theorem QV.len {w : World} {g n c : Nat} {A : Option Addr} {q : List Id} (h : QV w g A n c q) : n = q.length := by
 have := h.own.1
 rw [IdsU_length] at this
 omega
theorem IdsU_at : ∀ (q : List Id) (j k : Nat) (v : Value), j < q.length → (U (q.getD j zeroId).1)[k]? = some v → (IdsU q)[j * 32 + k]? = some v
 | [], j, k, v, h, _ => by simp at h
 | i :: q, 0, k, v, _, hv => by
   have e : IdsU (i :: q) = U i.1 ++ IdsU q := by simp [IdsU]
   have hv : (U i.1)[k]? = some v := hv
   have hk := (List.getElem?_eq_some_iff.1 hv).1
   rw [e, Nat.zero_mul, Nat.zero_add, List.getElem?_append_left hk]
   exact hv
 | i :: q, j + 1, k, v, h, hv => by
   have e : IdsU (i :: q) = U i.1 ++ IdsU q := by simp [IdsU]
   have hl : (U i.1).length = 32 := by rw [U_length]; exact i.2
   rw [e, List.getElem?_append_right (by rw [hl]; omega), hl, show (j + 1) * 32 + k - 32 = j * 32 + k by omega]
   exact IdsU_at q j k v (by simpa using h) (by simpa using hv)
theorem QV.range {w : World} {g n c qa : Nat} {q : List Id} (h : QV w g (some ⟨qa, 0, none⟩) n c q) {j : Nat} (hj : j < n) : w.rangeAt qa (j * 32) (U (q.getD j zeroId).1) := fun k v hv => by
 have h1 := h.own.cells (g := qa) rfl (j * 32 + k) v (IdsU_at q j k v (by have := h.len; omega) hv)
 rw [addr_add, Nat.zero_add] at h1
 exact h1
theorem less0 (a b : Array Value) (w : World) : Calls Tryz.prog 44 #[.agg a, .agg b] w fun e w' => e = .returned (.bool false) ∧ Below w.heap.size w w' := by
 go_enter Tryz.func44, Tryz.ntmps44
 go_wp2_with fail
 go_ret
 exact ⟨rfl, ((Below.refl _ _).alloc (Nat.le_refl _) _).alloc (by simp) _⟩
theorem still_load_mid {P : Program} {op : Oper} {a : Act} {w : World} {K : Act → Prop} (ty : TypeId) (x : Operand) (ho : op.op = .load ty x)
 (b o : Nat) (hx : a.eval x = .pointer (some ⟨b, o, none⟩)) (cs : List Value) (d : TypeDesc) (hc : w.rangeAt b o cs)
 (hu : P.underlying ty = some d) (hd : d.isRow = true) (hi : (P.info? ty).map (·.size) = some cs.length)
 (h : K (a.put op.dst (.agg cs.toArray))) : op.still P a w K := by
 unfold Oper.still execOp
 simp only [ho, hx, Instr.loadAt, Instr.sureAddr, Sem.run_bind, Sem.run_pure, Result.andThen_ok, run_loadVar_mid w b o ty cs d hc hu hd hi]
 exact (Oper.stillUpon_value _ _ _ _ _).mpr h
def QPost (w : World) (g : Nat) (A : Option Addr) (q : List Id) (w' : World) : Prop := ∃ A' n' c', QV w' g A' n' c' q ∧ Nw w A A' ∧ Kpt w w' g A
theorem QPost.drewN {w w' : World} {g : Nat} {A : Option Addr} {q : List Id} (h : QPost w g A q w') (k : Nat) : QPost w g A q (w'.drewN k) := by
 obtain ⟨A', n', c', h1, h2, h3⟩ := h
 exact ⟨A', n', c', ⟨h1.blk, h1.own⟩, h2, h3.drewN k⟩
theorem QPost.below {w w1 w' : World} {g : Nat} {A : Option Addr} {q : List Id} (h : QPost w g A q w1) (hb : Below w1.heap.size w1 w') : QPost w g A q w' := by
 obtain ⟨A', n', c', h1, h2, h3⟩ := h
 exact ⟨A', n', c', ⟨h1.blk.below hb h1.blk.lt, own_below h1.own hb⟩, h2, ⟨hb.os.trans h3.os, hb.tape.trans h3.tape, hb.output.trans h3.output, Nat.le_trans h3.size hb.size, fun k hk hg hA => (hb.block k (Nat.lt_of_lt_of_le hk h3.size)).trans (h3.block k hk hg hA)⟩⟩
set_option maxHeartbeats 4000000 in
theorem push_any (g n c : Nat) (A : Option Addr) (q : List Id) (i : Id) (w : World) (h : QV w g A n c q) (hn : n ≤ 1000000) :
 Calls Tryz.prog 47 #[.pointer (some ⟨g, 0, none⟩), .agg (U i.1).toArray] w fun e w' => e = .returned (.tuple #[]) ∧ QPost w g A (q ++ [i]) w' := by
 obtain ⟨wb, hwb⟩ : ∃ wb, wb = w.alloc (.cells (U i.1).toArray 30) := ⟨_, rfl⟩
 have hgb : w.grownBy wb none := by rw [hwb]; exact gb_alloc (gb_refl w none) _
 have HB : Hid (Blk wb.drew w.heap.size 30 (U i.1).toArray) := by rw [hwb]; exact Blk.new _ _ _
 have HQ : Hid (QV wb.drew g A n c q) := ⟨(h.blk.gb hgb (by simp)).drew, own_below h.own (below_of_gb hgb).drew⟩
 have HK : Hid (Kpt w wb.drew g A) := ⟨hgb.os, hgb.tape, hgb.output, hgb.size, fun k hk _ _ => hgb.block k hk (by simp)⟩
 have hsz30 := id_size _ i.2
 have hrg : wb.drew.rangeAt w.heap.size 0 (U i.1) := id_rangeB HB.out
 have hc0 := HQ.out.blk.cell 0
 have hf0 := HQ.out.blk.frozen 0
 simp at hc0
 have HONE : Hid (∀ u ∈ (U i.1).toArray.toList, u.oneCell' = true) := by unfold Hid; rw [List.toList_toArray]; exact U_one _
 have HLN : Hid (U i.1 = U i.1) := rfl
 have HAPP := Lib.hid (IdsU_snoc q i)
 have hu30 := Tryz.underlying30
 obtain ⟨d0, d1, d2, d3, d4, d5, d6, d7, d8, d9, d10, d11, d12, d13, d14, d15, d16, d17, d18, d19, d20, d21, d22, d23, d24, d25, d26, d27, d28, d29, d30, d31, hU⟩ := id32 i
 unfold Hid at HAPP HONE
 have HWB := Lib.hid hwb
 unfold Hid at HWB
 rw [hU] at HAPP HONE hrg hsz30 HWB
 rw [hU]
 replace HAPP := Lib.hid HAPP
 replace HONE := Lib.hid HONE
 replace HWB := Lib.hid HWB
 obtain ⟨ie, hie, his, hib, ze, hiz, hzs⟩ := info_id
 have HBL : Hid (wb.drew.heap[w.heap.size]? = some (.cells #[d0, d1, d2, d3, d4, d5, d6, d7, d8, d9, d10, d11, d12, d13, d14, d15, d16, d17, d18, d19, d20, d21, d22, d23, d24, d25, d26, d27, d28, d29, d30, d31] 30 (0, 0))) := by
  have h1 := HB.out
  unfold Blk at h1
  rw [hU] at h1
  exact h1
 have KAL : Hid ((wb.alloc (.cells #[d0, d1, d2, d3, d4, d5, d6, d7, d8, d9, d10, d11, d12, d13, d14, d15, d16, d17, d18, d19, d20, d21, d22, d23, d24, d25, d26, d27, d28, d29, d30, d31] 30)).drew.cell? ⟨g, 0, none⟩ = some (.slice A n c) ∧ (wb.alloc (.cells #[d0, d1, d2, d3, d4, d5, d6, d7, d8, d9, d10, d11, d12, d13, d14, d15, d16, d17, d18, d19, d20, d21, d22, d23, d24, d25, d26, d27, d28, d29, d30, d31] 30)).drew.frozen? ⟨g, 0, none⟩ = false ∧ (wb.alloc (.cells #[d0, d1, d2, d3, d4, d5, d6, d7, d8, d9, d10, d11, d12, d13, d14, d15, d16, d17, d18, d19, d20, d21, d22, d23, d24, d25, d26, d27, d28, d29, d30, d31] 30)).drew.rangeAt w.heap.size 0 [d0, d1, d2, d3, d4, d5, d6, d7, d8, d9, d10, d11, d12, d13, d14, d15, d16, d17, d18, d19, d20, d21, d22, d23, d24, d25, d26, d27, d28, d29, d30, d31]) := by
  have h1 := (show Blk wb g _ _ from HQ.out.blk).alloc (.cells #[d0, d1, d2, d3, d4, d5, d6, d7, d8, d9, d10, d11, d12, d13, d14, d15, d16, d17, d18, d19, d20, d21, d22, d23, d24, d25, d26, d27, d28, d29, d30, d31] 30)
  have h2 := id_rangeB (i := i) ((show Blk wb w.heap.size _ _ from HB.out).alloc (.cells #[d0, d1, d2, d3, d4, d5, d6, d7, d8, d9, d10, d11, d12, d13, d14, d15, d16, d17, d18, d19, d20, d21, d22, d23, d24, d25, d26, d27, d28, d29, d30, d31] 30))
  rw [hU] at h2
  exact ⟨by have := h1.cell 0; simpa using this, h1.frozen 0, h2⟩
 have FIN : Hid (∀ A2 c2 w2, w2.ownsRow 0 30 32 (.slice A2 (n + 1) c2) (n + 1) (IdsU q ++ #[d0, d1, d2, d3, d4, d5, d6, d7, d8, d9, d10, d11, d12, d13, d14, d15, d16, d17, d18, d19, d20, d21, d22, d23, d24, d25, d26, d27, d28, d29, d30, d31].toList) → wb.drew.grownBy w2 (Value.slice A n c).ownBlock → Nw wb.drew A A2 →
  w2.cell? ⟨g, 0, none⟩ = some (.slice A n c) ∧ w2.frozen? ⟨g, 0, none⟩ = false ∧ w2.rangeAt w.heap.size 0 [d0, d1, d2, d3, d4, d5, d6, d7, d8, d9, d10, d11, d12, d13, d14, d15, d16, d17, d18, d19, d20, d21, d22, d23, d24, d25, d26, d27, d28, d29, d30, d31] ∧ (w2.setCell ⟨g, 0, none⟩ (.slice A2 (n + 1) c2)).rangeAt w.heap.size 0 [d0, d1, d2, d3, d4, d5, d6, d7, d8, d9, d10, d11, d12, d13, d14, d15, d16, d17, d18, d19, d20, d21, d22, d23, d24, d25, d26, d27, d28, d29, d30, d31] ∧ QPost w g A (q ++ [i]) (w2.setCell ⟨g, 0, none⟩ (.slice A2 (n + 1) c2))) := by
  intro A2 c2 w2 hown2 hg2 hn2
  have hb2 : Blk w2 g 119 #[.slice A n c, fv0] := HQ.out.blk.gb hg2 (fun e => own_blk_ne HQ.out.own HQ.out.blk (by decide) e.symm)
  have hi2 : Blk w2 w.heap.size 30 (U i.1).toArray := HB.out.gb hg2 (fun e => by
   cases A with
   | none => simp [Value.ownBlock] at e
   | some p =>
     have := (h.own.lt p.block rfl).2
     have e2 : some w.heap.size = some p.block := e
     have := Option.some.inj e2
     omega)
  have h3 := id_rangeB hi2
  rw [hU] at h3
  have hgl := h.blk.lt
  have h4 := id_rangeB (hi2.far (p := ⟨g, 0, none⟩) (by show w.heap.size ≠ g; omega) (.slice A2 (n + 1) c2))
  rw [hU] at h4
  refine ⟨by have := hb2.cell 0; simpa using this, hb2.frozen 0, h3, h4, A2, n + 1, c2, ⟨?_, ?_⟩, ?_, ?_⟩
  · have := hb2.set_ 0 (.slice A2 (n + 1) c2)
    simpa using this
  · have e1 : IdsU (q ++ [i]) = IdsU q ++ #[d0, d1, d2, d3, d4, d5, d6, d7, d8, d9, d10, d11, d12, d13, d14, d15, d16, d17, d18, d19, d20, d21, d22, d23, d24, d25, d26, d27, d28, d29, d30, d31].toList := by rw [← IdsU_snoc, hU]
    rw [e1]
    exact own_set_other hown2 (a := ⟨g, 0, none⟩) (own_blk_ne hown2 hb2 (by decide)) _
  · exact (Nw.refl w A).trans HK.out.size hn2
  · exact HK.out.trans (Nw.refl w A) ((Kpt.of_gb hg2).set_ _)
 clear h hgb hwb hU
 go_enter Tryz.func47, Tryz.ntmps47
 go_upto_region 1 with fail
 rw [← HWB.out]
 obtain ⟨hca, hfa, hra⟩ := KAL.out
 clear HWB
 refine wp_region_noPanic ?_
 refine wp_region_held_drew (S := fun w' => w'.rangeAt w.heap.size 0 [d0, d1, d2, d3, d4, d5, d6, d7, d8, d9, d10, d11, d12, d13, d14, d15, d16, d17, d18, d19, d20, d21, d22, d23, d24, d25, d26, d27, d28, d29, d30, d31]) (by kernel_rfl) hrg (fun hHeld => ?_)
 refine wpAnyH_take (i := 0) (oi := { dst := some 5, op := Go.Op.move (Go.Operand.tmp 0), type := 117, pos := "walk.go:20", after := #[], guard := none }) (v := .pointer (some ⟨g, 0, none⟩)) rfl (by kernel_rfl) ?_ ?_ ?_ ?_ hHeld ?_
 · kernel_rfl
 · kernel_rfl
 · exact fun _ _ _ h => h
 · exact Or.inl ⟨by rfl, fun w' _ => by go_simp⟩
 (try simp only [Act.put, List.setIfInBounds_toArray, List.set_cons_zero, List.set_cons_succ])
 refine wpAnyH_take (i := 1) (oi := { dst := some 6, op := Go.Op.move (Go.Operand.tmp 0), type := 117, pos := "walk.go:20", after := #[], guard := none }) (v := .pointer (some ⟨g, 0, none⟩)) rfl (by kernel_rfl) ?_ ?_ ?_ ?_ hHeld ?_
 · kernel_rfl
 · kernel_rfl
 · exact fun _ _ _ h => h
 · exact Or.inl ⟨by rfl, fun w' _ => by go_simp⟩
 (try simp only [Act.put, List.setIfInBounds_toArray, List.set_cons_zero, List.set_cons_succ])
 refine wpAnyH_take (i := 2) (oi := { dst := some 7, op := Go.Op.nilCheck (Go.Operand.tmp 6), type := 0, pos := "walk.go:20", after := #[{ on := 1, ground := Go.Ground.data }], guard := none }) (v := .pointer (some ⟨g, 0, none⟩)) rfl (by kernel_rfl) ?_ ?_ ?_ ?_ hHeld ?_
 · kernel_rfl
 · kernel_rfl
 · exact fun _ _ _ h => h
 · exact Or.inl ⟨by rfl, fun w' _ => by go_simp⟩
 (try simp only [Act.put, List.setIfInBounds_toArray, List.set_cons_zero, List.set_cons_succ])
 refine wpAnyH_take (i := 3) (oi := { dst := some 8, op := Go.Op.fieldAddr 119 (Go.Operand.tmp 7) 0, type := 0, pos := "walk.go:20", after := #[{ on := 2, ground := Go.Ground.data }], guard := none }) (v := .pointer (some ⟨g, 0, none⟩)) rfl (by kernel_rfl) ?_ ?_ ?_ ?_ hHeld ?_
 · kernel_rfl
 · kernel_rfl
 · exact fun _ _ _ h => h
 · exact Or.inl ⟨by rfl, fun w' _ => by go_simp⟩
 (try simp only [Act.put, List.setIfInBounds_toArray, List.set_cons_zero, List.set_cons_succ])
 refine wpAnyH_take (i := 5) (oi := { dst := some 10, op := Go.Op.load 30 (Go.Operand.tmp 3), type := 30, pos := "walk.go:20", after := #[], guard := none }) (v := .agg ([d0, d1, d2, d3, d4, d5, d6, d7, d8, d9, d10, d11, d12, d13, d14, d15, d16, d17, d18, d19, d20, d21, d22, d23, d24, d25, d26, d27, d28, d29, d30, d31]).toArray) rfl (by kernel_rfl) ?_ ?_ ?_ ?_ hHeld ?_
 · kernel_rfl
 · kernel_rfl
 · exact fun _ _ _ h => h
 · exact yieldsIf_load_mid (by rfl) 30 (.tmp 3) rfl w.heap.size 0 rfl [d0, d1, d2, d3, d4, d5, d6, d7, d8, d9, d10, d11, d12, d13, d14, d15, d16, d17, d18, d19, d20, d21, d22, d23, d24, d25, d26, d27, d28, d29, d30, d31] _ (fun w' h => h) hu30 rfl hsz30
 (try simp only [Act.put, List.setIfInBounds_toArray, List.set_cons_zero, List.set_cons_succ])
 refine wpAnyH_ready (rs := [4, 6]) (by kernel_rfl) (by simp) ?_
 refine AllReadyH.cons (o := { dst := some 9, op := Go.Op.load 28 (Go.Operand.tmp 8), type := 28, pos := "walk.go:20", after := #[{ on := 3, ground := Go.Ground.data }], guard := none }) rfl (fun K hK => ?_) (AllReadyH.cons (o := { dst := some 11, op := Go.Op.buildSlice 28 1 #[(0, Go.Operand.tmp 10)], type := 28, pos := "walk.go:20", after := #[{ on := 5, ground := Go.Ground.data }], guard := none }) rfl (fun K hK => ?_) AllReadyH.nil)
 · go_simp
   refine hK.out _ _ hrg (fun hHeld => ?_)
   clear hK K
   (try simp only [Act.put, List.setIfInBounds_toArray, List.set_cons_zero, List.set_cons_succ])
   refine wpAnyH_ready (rs := [6]) (by kernel_rfl) (by simp) ?_
   refine AllReadyH.cons (o := { dst := some 11, op := Go.Op.buildSlice 28 1 #[(0, Go.Operand.tmp 10)], type := 28, pos := "walk.go:20", after := #[{ on := 5, ground := Go.Ground.data }], guard := none }) rfl (fun K hK => ?_) AllReadyH.nil
   go_simp
   refine hK.out _ _ hra (fun hHeld => ?_)
   clear hK K
   (try simp only [Act.put, List.setIfInBounds_toArray, List.set_cons_zero, List.set_cons_succ])
   refine wpAnyH_ready (rs := [7]) (by kernel_rfl) (by simp) ?_
   refine AllReadyH.cons (o := { dst := some 12, op := Go.Op.call { callee := Go.Callee.builtin Go.Builtin.append, args := #[Go.Operand.tmp 9, Go.Operand.tmp 11], argTypes := #[28, 28] }, type := 28, pos := "walk.go:20", after := #[{ on := 4, ground := Go.Ground.data }, { on := 6, ground := Go.Ground.data }], guard := none }) rfl (fun K hK => ?_) AllReadyH.nil
   refine step_pushN wb.drew rfl (.tmp 9) (.tmp 11) 28 rfl 0 30 ie ze 32 32 Tryz.underlying28 hie hiz his hib hzs (by decide) A n c (IdsU q) rfl HQ.out.own #[d0, d1, d2, d3, d4, d5, d6, d7, d8, d9, d10, d11, d12, d13, d14, d15, d16, d17, d18, d19, d20, d21, d22, d23, d24, d25, d26, d27, d28, d29, d30, d31] 1 _ rfl HONE.out rfl (by omega) (by unfold maxLen; omega) (Nat.zero_le _) ?_
   intro A2 c2 w2 hown2 hg2 hn2
   obtain ⟨k1, k2, k3, k4, hpost⟩ := FIN.out A2 c2 w2 hown2 hg2 hn2
   refine hK.out _ _ k3 (fun hHeld => ?_)
   clear hK K
   (try simp only [Act.put, List.setIfInBounds_toArray, List.set_cons_zero, List.set_cons_succ])
   refine wpAnyH_take (i := 8) (oi := { dst := some 13, op := Go.Op.nilCheck (Go.Operand.tmp 5), type := 0, pos := "walk.go:20", after := #[{ on := 0, ground := Go.Ground.data }, { on := 0, ground := Go.Ground.phase }, { on := 1, ground := Go.Ground.phase }, { on := 2, ground := Go.Ground.phase }, { on := 3, ground := Go.Ground.phase }, { on := 4, ground := Go.Ground.phase }, { on := 5, ground := Go.Ground.phase }, { on := 6, ground := Go.Ground.phase }, { on := 7, ground := Go.Ground.phase }], guard := none }) (v := .pointer (some ⟨g, 0, none⟩)) rfl (by kernel_rfl) ?_ ?_ ?_ ?_ hHeld ?_
   · kernel_rfl
   · kernel_rfl
   · exact fun _ _ _ h => h
   · exact Or.inl ⟨by rfl, fun w' _ => by go_simp⟩
   (try simp only [Act.put, List.setIfInBounds_toArray, List.set_cons_zero, List.set_cons_succ])
   refine wpAnyH_take (i := 9) (oi := { dst := some 14, op := Go.Op.fieldAddr 119 (Go.Operand.tmp 13) 0, type := 0, pos := "walk.go:20", after := #[{ on := 8, ground := Go.Ground.data }, { on := 0, ground := Go.Ground.phase }, { on := 1, ground := Go.Ground.phase }, { on := 2, ground := Go.Ground.phase }, { on := 3, ground := Go.Ground.phase }, { on := 4, ground := Go.Ground.phase }, { on := 5, ground := Go.Ground.phase }, { on := 6, ground := Go.Ground.phase }, { on := 7, ground := Go.Ground.phase }], guard := none }) (v := .pointer (some ⟨g, 0, none⟩)) rfl (by kernel_rfl) ?_ ?_ ?_ ?_ hHeld ?_
   · kernel_rfl
   · kernel_rfl
   · exact fun _ _ _ h => h
   · exact Or.inl ⟨by rfl, fun w' _ => by go_simp⟩
   (try simp only [Act.put, List.setIfInBounds_toArray, List.set_cons_zero, List.set_cons_succ])
   refine wpAnyH_ready (rs := [10]) (by kernel_rfl) (by simp) ?_
   refine AllReadyH.cons (o := { dst := none, op := Go.Op.store 28 (Go.Operand.tmp 14) (Go.Operand.tmp 12), type := 0, pos := "walk.go:20", after := #[{ on := 9, ground := Go.Ground.data }, { on := 7, ground := Go.Ground.data }, { on := 7, ground := Go.Ground.chain }, { on := 0, ground := Go.Ground.phase }, { on := 1, ground := Go.Ground.phase }, { on := 2, ground := Go.Ground.phase }, { on := 3, ground := Go.Ground.phase }, { on := 4, ground := Go.Ground.phase }, { on := 5, ground := Go.Ground.phase }, { on := 6, ground := Go.Ground.phase }, { on := 7, ground := Go.Ground.phase }], guard := none }) rfl (fun K hK => ?_) AllReadyH.nil
   go_simp
   refine hK.out _ _ k4 (fun hHeld => ?_)
   clear hK K
   (try simp only [Act.put, List.setIfInBounds_toArray, List.set_cons_zero, List.set_cons_succ])
   refine wpAnyH_done (by kernel_rfl) ?_ _
   refine NoPanic.normal ?_
   generalize w2.setCell ⟨g, 0, none⟩ (.slice A2 (n + 1) c2) = w9 at *
   obtain ⟨A3, n3, c3, hq3, hn3, hk3⟩ := hpost
   have hl3 := hq3.len
   rw [List.length_append, List.length_singleton] at hl3
   have HP := Lib.hid (And.intro hq3 (And.intro hn3 hk3))
   have HL3 := Lib.hid hl3
   obtain ⟨j1, hj1⟩ : ∃ j1, j1 = n3 - 1 := ⟨_, rfl⟩
   have ej1 : (n3 : Int) - 1 = (j1 : Int) := by omega
   obtain ⟨qa, hqa⟩ : ∃ qa, A3 = some ⟨qa, 0, none⟩ := by
    obtain ⟨qa, cap, hv, _, _⟩ := hq3.own.form (by omega)
    injection hv with hv1
    exact ⟨qa, hv1⟩
   subst hqa
   have hc0' := hq3.blk.cell 0
   have hc1' := hq3.blk.cell 1
   simp at hc0' hc1'
   have HJ1 := Lib.hid hj1
   have hj1b : j1 ≤ 1000001 := by have := HQ.out.len; omega
   clear hca hfa hra hrg hc0 hf0 HAPP HONE KAL FIN HBL HB HQ HK hl3 hj1 hn3 hk3 k1 k2 k3 k4 hown2 hg2 hn2 hsz30
   by_cases h0 : j1 = 0
   · subst h0
     go_wp2_with fail
     refine wp_loop_rounds 1 ?_
     rw [rounds_succ]
     go_wp2_with fail
     go_quiet (fail)
     go_wp2_with fail
     go_end0
     exact ⟨rfl, QPost.drewN ⟨_, n3, c3, HP.out.1, HP.out.2.1, HP.out.2.2⟩ nq⟩
   · have hd : decide ((0 : Int) < (j1 : Int)) = true := decide_eq_true (by omega)
     have hd' : decide (0 < j1) = true := decide_eq_true (by omega)
     have hj1n : j1 < n3 := by have := HJ1.out; omega
     obtain ⟨j2, hj2⟩ : ∃ j2, j2 = (j1 - 1) / 2 := ⟨_, rfl⟩
     obtain ⟨j0, hj0⟩ : ∃ j0, j0 = j1 - 1 := ⟨_, rfl⟩
     have ej0 : (j1 : Int) - 1 = (j0 : Int) := by omega
     have ej2 : (j0 : Int) / 2 = (j2 : Int) := by omega
     have ej2t : (j0 : Int).tdiv 2 = (j2 : Int) := by rw [Int.tdiv_eq_ediv_of_nonneg (by omega)]; omega
     have ej2n : j0 / 2 = j2 := by omega
     have ewj0 : IntKind.i64.wrap (j0 : Int) = (j0 : Int) := wraps_i64 _ (by omega) (by omega)
     have ewj2 : IntKind.i64.wrap (j2 : Int) = (j2 : Int) := wraps_i64 _ (by omega) (by omega)
     have hj2n : j2 < n3 := by omega
     have b1 : (0 : Int) ≤ (j1 : Int) := by omega
     have b2 : (j1 : Int) < (n3 : Int) := by omega
     have b3 : (0 : Int) ≤ (j2 : Int) := by omega
     have b4 : (j2 : Int) < (n3 : Int) := by omega
     have hj0b : j0 ≤ 1000001 := by omega
     have hj2b : j2 ≤ 1000001 := by omega
     have hr1 := hq3.range hj1n
     have hr2 := hq3.range hj2n
     obtain ⟨x1, hx1⟩ : ∃ x1, x1 = (q ++ [i]).getD j1 zeroId := ⟨_, rfl⟩
     obtain ⟨x2, hx2⟩ : ∃ x2, x2 = (q ++ [i]).getD j2 zeroId := ⟨_, rfl⟩
     rw [← hx1] at hr1
     rw [← hx2] at hr2
     have hs1 := id_size _ x1.2
     have hs2 := id_size _ x2.2
     have HLS := Lib.hid (fun w => less0 (U x1.1).toArray (U x2.1).toArray w)
     clear hj2 hj0 hx1 hx2
     go_wp2_with fail
     refine wp_loop_rounds 1 ?_
     rw [rounds_succ]
     go_wp2_with fail
     refine wp_region_still_tail 23 (by kernel_rfl) (by kernel_rfl) ?_
     change wpStill _ _ w9.drew (fun a' => wpList _ _ _ _ a' w9.drew) _ _
     simp only [List.take_succ_cons, List.take_zero, List.drop_succ_cons, List.drop_zero]
     iterate 13 still_step
     refine wpStill_step (fun K hK => ?_)
     rw [if_pos (by rfl)]
     refine still_load_mid 30 (.tmp 33) rfl qa (j1 * 32) rfl (U x1.1) _ (show w9.drew.rangeAt _ _ _ from hr1) hu30 rfl hs1 ?_
     refine hK _ ?_
     clear hK K
     iterate 8 still_step
     refine wpStill_step (fun K hK => ?_)
     rw [if_pos (by rfl)]
     refine still_load_mid 30 (.tmp 42) rfl qa (j2 * 32) rfl (U x2.1) _ (show w9.drew.rangeAt _ _ _ from hr2) hu30 rfl hs2 ?_
     refine hK _ ?_
     clear hK K
     refine wpStill_nil ?_
     go_wp2_with fail
     refine (HLS.out _).mono ?_
     rintro e w4 ⟨rfl, hb4⟩
     have HF : Hid (QPost w g A (q ++ [i]) w4) := QPost.below (w1 := w9.drew) (QPost.drewN ⟨_, n3, c3, HP.out.1, HP.out.2.1, HP.out.2.2⟩ 1) hb4
     clear hb4 hr1 hr2 HLS HP hq3 hc0' hc1'
     go_wp2_with fail
     go_end0
     exact ⟨rfl, HF.out⟩
 · go_simp
   refine hK.out _ _ hra (fun hHeld => ?_)
   clear hK K
   (try simp only [Act.put, List.setIfInBounds_toArray, List.set_cons_zero, List.set_cons_succ])
   refine wpAnyH_ready (rs := [4]) (by kernel_rfl) (by simp) ?_
   refine AllReadyH.cons (o := { dst := some 9, op := Go.Op.load 28 (Go.Operand.tmp 8), type := 28, pos := "walk.go:20", after := #[{ on := 3, ground := Go.Ground.data }], guard := none }) rfl (fun K hK => ?_) AllReadyH.nil
   go_simp
   refine hK.out _ _ hra (fun hHeld => ?_)
   clear hK K
   (try simp only [Act.put, List.setIfInBounds_toArray, List.set_cons_zero, List.set_cons_succ])
   refine wpAnyH_ready (rs := [7]) (by kernel_rfl) (by simp) ?_
   refine AllReadyH.cons (o := { dst := some 12, op := Go.Op.call { callee := Go.Callee.builtin Go.Builtin.append, args := #[Go.Operand.tmp 9, Go.Operand.tmp 11], argTypes := #[28, 28] }, type := 28, pos := "walk.go:20", after := #[{ on := 4, ground := Go.Ground.data }, { on := 6, ground := Go.Ground.data }], guard := none }) rfl (fun K hK => ?_) AllReadyH.nil
   refine step_pushN wb.drew rfl (.tmp 9) (.tmp 11) 28 rfl 0 30 ie ze 32 32 Tryz.underlying28 hie hiz his hib hzs (by decide) A n c (IdsU q) rfl HQ.out.own #[d0, d1, d2, d3, d4, d5, d6, d7, d8, d9, d10, d11, d12, d13, d14, d15, d16, d17, d18, d19, d20, d21, d22, d23, d24, d25, d26, d27, d28, d29, d30, d31] 1 _ rfl HONE.out rfl (by omega) (by unfold maxLen; omega) (Nat.zero_le _) ?_
   intro A2 c2 w2 hown2 hg2 hn2
   obtain ⟨k1, k2, k3, k4, hpost⟩ := FIN.out A2 c2 w2 hown2 hg2 hn2
   refine hK.out _ _ k3 (fun hHeld => ?_)
   clear hK K
   (try simp only [Act.put, List.setIfInBounds_toArray, List.set_cons_zero, List.set_cons_succ])
   refine wpAnyH_take (i := 8) (oi := { dst := some 13, op := Go.Op.nilCheck (Go.Operand.tmp 5), type := 0, pos := "walk.go:20", after := #[{ on := 0, ground := Go.Ground.data }, { on := 0, ground := Go.Ground.phase }, { on := 1, ground := Go.Ground.phase }, { on := 2, ground := Go.Ground.phase }, { on := 3, ground := Go.Ground.phase }, { on := 4, ground := Go.Ground.phase }, { on := 5, ground := Go.Ground.phase }, { on := 6, ground := Go.Ground.phase }, { on := 7, ground := Go.Ground.phase }], guard := none }) (v := .pointer (some ⟨g, 0, none⟩)) rfl (by kernel_rfl) ?_ ?_ ?_ ?_ hHeld ?_
   · kernel_rfl
   · kernel_rfl
   · exact fun _ _ _ h => h
   · exact Or.inl ⟨by rfl, fun w' _ => by go_simp⟩
   (try simp only [Act.put, List.setIfInBounds_toArray, List.set_cons_zero, List.set_cons_succ])
   refine wpAnyH_take (i := 9) (oi := { dst := some 14, op := Go.Op.fieldAddr 119 (Go.Operand.tmp 13) 0, type := 0, pos := "walk.go:20", after := #[{ on := 8, ground := Go.Ground.data }, { on := 0, ground := Go.Ground.phase }, { on := 1, ground := Go.Ground.phase }, { on := 2, ground := Go.Ground.phase }, { on := 3, ground := Go.Ground.phase }, { on := 4, ground := Go.Ground.phase }, { on := 5, ground := Go.Ground.phase }, { on := 6, ground := Go.Ground.phase }, { on := 7, ground := Go.Ground.phase }], guard := none }) (v := .pointer (some ⟨g, 0, none⟩)) rfl (by kernel_rfl) ?_ ?_ ?_ ?_ hHeld ?_
   · kernel_rfl
   · kernel_rfl
   · exact fun _ _ _ h => h
   · exact Or.inl ⟨by rfl, fun w' _ => by go_simp⟩
   (try simp only [Act.put, List.setIfInBounds_toArray, List.set_cons_zero, List.set_cons_succ])
   refine wpAnyH_ready (rs := [10]) (by kernel_rfl) (by simp) ?_
   refine AllReadyH.cons (o := { dst := none, op := Go.Op.store 28 (Go.Operand.tmp 14) (Go.Operand.tmp 12), type := 0, pos := "walk.go:20", after := #[{ on := 9, ground := Go.Ground.data }, { on := 7, ground := Go.Ground.data }, { on := 7, ground := Go.Ground.chain }, { on := 0, ground := Go.Ground.phase }, { on := 1, ground := Go.Ground.phase }, { on := 2, ground := Go.Ground.phase }, { on := 3, ground := Go.Ground.phase }, { on := 4, ground := Go.Ground.phase }, { on := 5, ground := Go.Ground.phase }, { on := 6, ground := Go.Ground.phase }, { on := 7, ground := Go.Ground.phase }], guard := none }) rfl (fun K hK => ?_) AllReadyH.nil
   go_simp
   refine hK.out _ _ k4 (fun hHeld => ?_)
   clear hK K
   (try simp only [Act.put, List.setIfInBounds_toArray, List.set_cons_zero, List.set_cons_succ])
   refine wpAnyH_done (by kernel_rfl) ?_ _
   refine NoPanic.normal ?_
   generalize w2.setCell ⟨g, 0, none⟩ (.slice A2 (n + 1) c2) = w9 at *
   obtain ⟨A3, n3, c3, hq3, hn3, hk3⟩ := hpost
   have hl3 := hq3.len
   rw [List.length_append, List.length_singleton] at hl3
   have HP := Lib.hid (And.intro hq3 (And.intro hn3 hk3))
   have HL3 := Lib.hid hl3
   obtain ⟨j1, hj1⟩ : ∃ j1, j1 = n3 - 1 := ⟨_, rfl⟩
   have ej1 : (n3 : Int) - 1 = (j1 : Int) := by omega
   obtain ⟨qa, hqa⟩ : ∃ qa, A3 = some ⟨qa, 0, none⟩ := by
    obtain ⟨qa, cap, hv, _, _⟩ := hq3.own.form (by omega)
    injection hv with hv1
    exact ⟨qa, hv1⟩
   subst hqa
   have hc0' := hq3.blk.cell 0
   have hc1' := hq3.blk.cell 1
   simp at hc0' hc1'
   have HJ1 := Lib.hid hj1
   have hj1b : j1 ≤ 1000001 := by have := HQ.out.len; omega
   clear hca hfa hra hrg hc0 hf0 HAPP HONE KAL FIN HBL HB HQ HK hl3 hj1 hn3 hk3 k1 k2 k3 k4 hown2 hg2 hn2 hsz30
   by_cases h0 : j1 = 0
   · subst h0
     go_wp2_with fail
     refine wp_loop_rounds 1 ?_
     rw [rounds_succ]
     go_wp2_with fail
     go_quiet (fail)
     go_wp2_with fail
     go_end0
     exact ⟨rfl, QPost.drewN ⟨_, n3, c3, HP.out.1, HP.out.2.1, HP.out.2.2⟩ nq⟩
   · have hd : decide ((0 : Int) < (j1 : Int)) = true := decide_eq_true (by omega)
     have hd' : decide (0 < j1) = true := decide_eq_true (by omega)
     have hj1n : j1 < n3 := by have := HJ1.out; omega
     obtain ⟨j2, hj2⟩ : ∃ j2, j2 = (j1 - 1) / 2 := ⟨_, rfl⟩
     obtain ⟨j0, hj0⟩ : ∃ j0, j0 = j1 - 1 := ⟨_, rfl⟩
     have ej0 : (j1 : Int) - 1 = (j0 : Int) := by omega
     have ej2 : (j0 : Int) / 2 = (j2 : Int) := by omega
     have ej2t : (j0 : Int).tdiv 2 = (j2 : Int) := by rw [Int.tdiv_eq_ediv_of_nonneg (by omega)]; omega
     have ej2n : j0 / 2 = j2 := by omega
     have ewj0 : IntKind.i64.wrap (j0 : Int) = (j0 : Int) := wraps_i64 _ (by omega) (by omega)
     have ewj2 : IntKind.i64.wrap (j2 : Int) = (j2 : Int) := wraps_i64 _ (by omega) (by omega)
     have hj2n : j2 < n3 := by omega
     have b1 : (0 : Int) ≤ (j1 : Int) := by omega
     have b2 : (j1 : Int) < (n3 : Int) := by omega
     have b3 : (0 : Int) ≤ (j2 : Int) := by omega
     have b4 : (j2 : Int) < (n3 : Int) := by omega
     have hj0b : j0 ≤ 1000001 := by omega
     have hj2b : j2 ≤ 1000001 := by omega
     have hr1 := hq3.range hj1n
     have hr2 := hq3.range hj2n
     obtain ⟨x1, hx1⟩ : ∃ x1, x1 = (q ++ [i]).getD j1 zeroId := ⟨_, rfl⟩
     obtain ⟨x2, hx2⟩ : ∃ x2, x2 = (q ++ [i]).getD j2 zeroId := ⟨_, rfl⟩
     rw [← hx1] at hr1
     rw [← hx2] at hr2
     have hs1 := id_size _ x1.2
     have hs2 := id_size _ x2.2
     have HLS := Lib.hid (fun w => less0 (U x1.1).toArray (U x2.1).toArray w)
     clear hj2 hj0 hx1 hx2
     go_wp2_with fail
     refine wp_loop_rounds 1 ?_
     rw [rounds_succ]
     go_wp2_with fail
     refine wp_region_still_tail 23 (by kernel_rfl) (by kernel_rfl) ?_
     change wpStill _ _ w9.drew (fun a' => wpList _ _ _ _ a' w9.drew) _ _
     simp only [List.take_succ_cons, List.take_zero, List.drop_succ_cons, List.drop_zero]
     iterate 13 still_step
     refine wpStill_step (fun K hK => ?_)
     rw [if_pos (by rfl)]
     refine still_load_mid 30 (.tmp 33) rfl qa (j1 * 32) rfl (U x1.1) _ (show w9.drew.rangeAt _ _ _ from hr1) hu30 rfl hs1 ?_
     refine hK _ ?_
     clear hK K
     iterate 8 still_step
     refine wpStill_step (fun K hK => ?_)
     rw [if_pos (by rfl)]
     refine still_load_mid 30 (.tmp 42) rfl qa (j2 * 32) rfl (U x2.1) _ (show w9.drew.rangeAt _ _ _ from hr2) hu30 rfl hs2 ?_
     refine hK _ ?_
     clear hK K
     refine wpStill_nil ?_
     go_wp2_with fail
     refine (HLS.out _).mono ?_
     rintro e w4 ⟨rfl, hb4⟩
     have HF : Hid (QPost w g A (q ++ [i]) w4) := QPost.below (w1 := w9.drew) (QPost.drewN ⟨_, n3, c3, HP.out.1, HP.out.2.1, HP.out.2.2⟩ 1) hb4
     clear hb4 hr1 hr2 HLS HP hq3 hc0' hc1'
     go_wp2_with fail
     go_end0
     exact ⟨rfl, HF.out⟩
end Go.Proofs.YtnjhjbmngoeobaaGreatDoor
