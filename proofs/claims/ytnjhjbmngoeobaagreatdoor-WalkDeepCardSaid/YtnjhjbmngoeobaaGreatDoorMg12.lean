/- Laws towards WalkDeep: ObjC, GesP, SetP, StoP, ParD, ParE. -/
import Derived.Test.YtnjhjbmngoeobaaGreatDoorMg11
import Derived.Test.YtnjhjbmngoeobaaGreatDoorMg02
import Derived.Test.YtnjhjbmngoeobaaGreatDoorMg03
import Derived.Laws.ResultCell
namespace Go.Proofs.YtnjhjbmngoeobaaGreatDoor
open Go.RowKit
set_option maxRecDepth 100000
theorem wpList_buildL {P : Program} {ops : Array Oper} {rest : List Oper} {o : Oper} {a : Act} {w : World} {Q : Exit → Act → World → Prop} (hgd : o.guard = none) (t : TypeId) (parts : List (Nat × Operand)) (ho : o.op = .build t parts.toArray)
 (vals : List (Nat × Value)) (hv : parts.map (fun p => (p.1, a.eval p.2)) = vals) (v : Value) (hrun : (Instr.build t vals.toArray).run P w = .ok v w) (h : wpList P ops Q rest (a.put o.dst v) w) : wpList P ops Q (o :: rest) a w :=
 wpList_buildR hgd t parts.toArray ho vals.toArray (by rw [← hv, List.map_toArray]) v hrun h
set_option maxHeartbeats 4000000 in
theorem object_commit (i : Id) (a b c d : Value) (ha : a.oneCell' = true) (hb : b.oneCell' = true) (hc : c.oneCell' = true) (hd : d.oneCell' = true) (w : World) : Calls Tryz.prog 41 #[.iface 113 (.agg (comL i a b c d).toArray)] w (ObPost w (obL (.int .i64 3) (.slice none 0 0) (.slice none 0 0) (comL i a b c d) zTag)) := by
 have HB := Lib.hid (fun w => build_ob_com i a b c d w)
 have HL : Hid ((obL (.int .i64 3) (.slice none 0 0) (.slice none 0 0) (comL i a b c d) zTag).length = 76) := obL_length _ _ _ _ _ (comL_length _ _ _ _ _) zTag_length
 have HO : Hid (∀ v ∈ (obL (.int .i64 3) (.slice none 0 0) (.slice none 0 0) (comL i a b c d) zTag), v.oneCell' = true) := obL_one _ _ _ _ _ rfl rfl rfl (comL_one i a b c d ha hb hc hd) zTag_one
 have HSI : Hid ((Tryz.prog.info? 47).map (·.size) = some (obL (.int .i64 3) (.slice none 0 0) (.slice none 0 0) (comL i a b c d) zTag).length) := by rw [HL.out]; exact info_ob
 have HSA : Hid ((Tryz.prog.info? 47).map (·.size) = some (obL (.int .i64 3) (.slice none 0 0) (.slice none 0 0) (comL i a b c d) zTag).toArray.size) := by rw [List.size_toArray, HL.out]; exact info_ob
 have HFT : Hid (0 + (obL (.int .i64 3) (.slice none 0 0) (.slice none 0 0) (comL i a b c d) zTag).length ≤ zOb.length) := by rw [HL.out]; exact Nat.le_refl _
 have HKI : Hid ((Tryz.prog.info? 113).map (·.size) = some (comL i a b c d).length) := by rw [comL_length]; exact info_com
 have HKA : Hid ((Tryz.prog.info? 113).map (·.size) = some (comL i a b c d).toArray.size) := by rw [List.size_toArray, comL_length]; exact info_com
 have HKF : Hid (0 + (comL i a b c d).length ≤ zCom.length) := com_fit i a b c d
 have HKO : Hid (∀ v ∈ (comL i a b c d), v.oneCell' = true) := comL_one i a b c d ha hb hc hd
 obtain ⟨wA, hwA⟩ : ∃ wA, wA = w.alloc (.cells Tryz.zeroCells47 47) := ⟨_, rfl⟩
 have HTA : Hid (wA.heap[w.heap.size]? = some (.cells zOb.toArray 47 (0, 0))) := by rw [hwA]; exact (ob_new w).out
 have HGA : Hid (w.grownBy wA none) := by rw [hwA]; exact gb_alloc (gb_refl w none) _
 have HN := com_new wA
 have HLT : Hid (w.heap.size < wA.heap.size) := by show _ < _; rw [hwA]; simp
 have HT0 := assert_commit_blob (.agg (comL i a b c d).toArray)
 have HT1 := assert_commit_tree (.agg (comL i a b c d).toArray)
 have HT2 := assert_commit_commit (.agg (comL i a b c d).toArray)
 go_enter Tryz.func41, Tryz.ntmps41
 go_upto_region 1 with fail
 rw [← hwA]
 clear hwA
 go_upto_region 10 with (with_reducible refine wpList_storeG rfl 113 (.tmp 5) (.tmp 20) rfl wA.heap.size 0 (comL i a b c d) rfl rfl zCom 113 HN.out HKF.out HKO.out HKI.out ?_; intro w1 HB1 HG1)
 have HG1 := Lib.hid (gb_fresh HG1.out)
 have HC1 : Hid (w1.heap[wA.heap.size]? = some (.cells (comL i a b c d).toArray 113 (0, 0))) := by
  have h1 := HB1.out
  rw [splice_com] at h1
  exact h1
 have HT1 : Hid (w1.heap[w.heap.size]? = some (.cells zOb.toArray 47 (0, 0))) := (HG1.out.block _ HLT.out (by simp)).trans HTA.out
 refine wp_region_lit ?_
 refine wpList_load_row rfl 113 (.tmp 5) rfl wA.heap.size rfl 113 (comL i a b c d).toArray (0, 0) _ HC1.out Tryz.underlying113 rfl HKA.out ?_
 refine wpList_buildL rfl 47 [(0, .const (.int .i64 3)), (3, .tmp 21)] rfl [(0, .int .i64 3), (3, .agg (comL i a b c d).toArray)] rfl _ (HB.out _) ?_
 refine wpList_storeG rfl 47 (.tmp 2) (.tmp 22) rfl w.heap.size 0 (obL (.int .i64 3) (.slice none 0 0) (.slice none 0 0) (comL i a b c d) zTag) rfl rfl zOb 47 HT1.out HFT.out HO.out HSI.out ?_
 intro w2 HB2 HG2
 go_wp2_with fail
 have HRW : Hid (w2.heap[w.heap.size]? = some (.cells (obL (.int .i64 3) (.slice none 0 0) (.slice none 0 0) (comL i a b c d) zTag).toArray 47 (0, 0))) := by
  have h1 := HB2.out
  rw [splice_all _ _ (by rw [HL.out]; rfl)] at h1
  exact h1
 have HBL : Hid (Below w.heap.size w w2) := below_of_gb_some (gb_join (g := w.heap.size) (gb_none (gb_trans HGA.out HG1.out)) HG2.out (Nat.le_refl _)) (Nat.le_refl _) (Nat.le_refl _)
 have HV : Hid (ObPost w (obL (.int .i64 3) (.slice none 0 0) (.slice none 0 0) (comL i a b c d) zTag) (.returned (.agg (obL (.int .i64 3) (.slice none 0 0) (.slice none 0 0) (comL i a b c d) zTag).toArray)) w2) := ⟨rfl, HBL.out⟩
 exact bodyPost_ret (v := .agg (obL (.int .i64 3) (.slice none 0 0) (.slice none 0 0) (comL i a b c d) zTag).toArray) (results_cell_row Tryz.results41 _ w2 w.heap.size 47 (obL (.int .i64 3) (.slice none 0 0) (.slice none 0 0) (comL i a b c d) zTag).toArray (0, 0) _ rfl HRW.out Tryz.underlying47 rfl HSA.out) rfl HV.out
set_option maxHeartbeats 4000000 in
theorem object_tag (i : Id) (a b c d e : Value) (ha : a.oneCell' = true) (hb : b.oneCell' = true) (hc : c.oneCell' = true) (hd : d.oneCell' = true) (he : e.oneCell' = true) (w : World) : Calls Tryz.prog 41 #[.iface 114 (.agg (tagL i a b c d e).toArray)] w (ObPost w (obL (.int .i64 4) (.slice none 0 0) (.slice none 0 0) zCom (tagL i a b c d e))) := by
 have HB := Lib.hid (fun w => build_ob_tag i a b c d e w)
 have HL : Hid ((obL (.int .i64 4) (.slice none 0 0) (.slice none 0 0) zCom (tagL i a b c d e)).length = 76) := obL_length _ _ _ _ _ zCom_length (tagL_length _ _ _ _ _ _)
 have HO : Hid (∀ v ∈ (obL (.int .i64 4) (.slice none 0 0) (.slice none 0 0) zCom (tagL i a b c d e)), v.oneCell' = true) := obL_one _ _ _ _ _ rfl rfl rfl zCom_one (tagL_one i a b c d e ha hb hc hd he)
 have HSI : Hid ((Tryz.prog.info? 47).map (·.size) = some (obL (.int .i64 4) (.slice none 0 0) (.slice none 0 0) zCom (tagL i a b c d e)).length) := by rw [HL.out]; exact info_ob
 have HSA : Hid ((Tryz.prog.info? 47).map (·.size) = some (obL (.int .i64 4) (.slice none 0 0) (.slice none 0 0) zCom (tagL i a b c d e)).toArray.size) := by rw [List.size_toArray, HL.out]; exact info_ob
 have HFT : Hid (0 + (obL (.int .i64 4) (.slice none 0 0) (.slice none 0 0) zCom (tagL i a b c d e)).length ≤ zOb.length) := by rw [HL.out]; exact Nat.le_refl _
 have HKI : Hid ((Tryz.prog.info? 114).map (·.size) = some (tagL i a b c d e).length) := by rw [tagL_length]; exact info_tag
 have HKA : Hid ((Tryz.prog.info? 114).map (·.size) = some (tagL i a b c d e).toArray.size) := by rw [List.size_toArray, tagL_length]; exact info_tag
 have HKF : Hid (0 + (tagL i a b c d e).length ≤ zTag.length) := tag_fit i a b c d e
 have HKO : Hid (∀ v ∈ (tagL i a b c d e), v.oneCell' = true) := tagL_one i a b c d e ha hb hc hd he
 obtain ⟨wA, hwA⟩ : ∃ wA, wA = w.alloc (.cells Tryz.zeroCells47 47) := ⟨_, rfl⟩
 have HTA : Hid (wA.heap[w.heap.size]? = some (.cells zOb.toArray 47 (0, 0))) := by rw [hwA]; exact (ob_new w).out
 have HGA : Hid (w.grownBy wA none) := by rw [hwA]; exact gb_alloc (gb_refl w none) _
 have HN := tag_new wA
 have HLT : Hid (w.heap.size < wA.heap.size) := by show _ < _; rw [hwA]; simp
 have HT0 := assert_tag_blob (.agg (tagL i a b c d e).toArray)
 have HT1 := assert_tag_tree (.agg (tagL i a b c d e).toArray)
 have HT2 := assert_tag_commit (.agg (tagL i a b c d e).toArray)
 have HT3 := assert_tag_tag (.agg (tagL i a b c d e).toArray)
 go_enter Tryz.func41, Tryz.ntmps41
 go_upto_region 1 with fail
 rw [← hwA]
 clear hwA
 go_upto_region 13 with (with_reducible refine wpList_storeG rfl 114 (.tmp 6) (.tmp 25) rfl wA.heap.size 0 (tagL i a b c d e) rfl rfl zTag 114 HN.out HKF.out HKO.out HKI.out ?_; intro w1 HB1 HG1)
 have HG1 := Lib.hid (gb_fresh HG1.out)
 have HC1 : Hid (w1.heap[wA.heap.size]? = some (.cells (tagL i a b c d e).toArray 114 (0, 0))) := by
  have h1 := HB1.out
  rw [splice_tag] at h1
  exact h1
 have HT1 : Hid (w1.heap[w.heap.size]? = some (.cells zOb.toArray 47 (0, 0))) := (HG1.out.block _ HLT.out (by simp)).trans HTA.out
 refine wp_region_lit ?_
 refine wpList_load_row rfl 114 (.tmp 6) rfl wA.heap.size rfl 114 (tagL i a b c d e).toArray (0, 0) _ HC1.out Tryz.underlying114 rfl HKA.out ?_
 refine wpList_buildL rfl 47 [(0, .const (.int .i64 4)), (4, .tmp 26)] rfl [(0, .int .i64 4), (4, .agg (tagL i a b c d e).toArray)] rfl _ (HB.out _) ?_
 refine wpList_storeG rfl 47 (.tmp 2) (.tmp 27) rfl w.heap.size 0 (obL (.int .i64 4) (.slice none 0 0) (.slice none 0 0) zCom (tagL i a b c d e)) rfl rfl zOb 47 HT1.out HFT.out HO.out HSI.out ?_
 intro w2 HB2 HG2
 go_wp2_with fail
 have HRW : Hid (w2.heap[w.heap.size]? = some (.cells (obL (.int .i64 4) (.slice none 0 0) (.slice none 0 0) zCom (tagL i a b c d e)).toArray 47 (0, 0))) := by
  have h1 := HB2.out
  rw [splice_all _ _ (by rw [HL.out]; rfl)] at h1
  exact h1
 have HBL : Hid (Below w.heap.size w w2) := below_of_gb_some (gb_join (g := w.heap.size) (gb_none (gb_trans HGA.out HG1.out)) HG2.out (Nat.le_refl _)) (Nat.le_refl _) (Nat.le_refl _)
 have HV : Hid (ObPost w (obL (.int .i64 4) (.slice none 0 0) (.slice none 0 0) zCom (tagL i a b c d e)) (.returned (.agg (obL (.int .i64 4) (.slice none 0 0) (.slice none 0 0) zCom (tagL i a b c d e)).toArray)) w2) := ⟨rfl, HBL.out⟩
 exact bodyPost_ret (v := .agg (obL (.int .i64 4) (.slice none 0 0) (.slice none 0 0) zCom (tagL i a b c d e)).toArray) (results_cell_row Tryz.results41 _ w2 w.heap.size 47 (obL (.int .i64 4) (.slice none 0 0) (.slice none 0 0) zCom (tagL i a b c d e)).toArray (0, 0) _ rfl HRW.out Tryz.underlying47 rfl HSA.out) rfl HV.out
end Go.Proofs.YtnjhjbmngoeobaaGreatDoor
namespace Go.Proofs.YtnjhjbmngoeobaaGreatDoor
set_option maxRecDepth 20000
def tailP (t : Bs) (lo hi : Nat) : Bool := match t with | [] => false | c :: _ => decide (lo ≤ c.toNat) && decide (c.toNat ≤ hi)
def sgn (s : Bs) : Nat :=
 match s with
 | [] => 0
 | b :: t =>
   let c := b.toNat
   if c < 128 then 1
   else if 194 ≤ c ∧ c ≤ 223 then (if tailP t 128 191 then 2 else 0)
   else if 224 ≤ c ∧ c ≤ 239 then (if tailP t (if c = 224 then 160 else 128) (if c = 237 then 159 else 191) && tailP (t.drop 1) 128 191 then 3 else 0)
   else if 240 ≤ c ∧ c ≤ 244 then (if tailP t (if c = 240 then 144 else 128) (if c = 244 then 143 else 191) && tailP (t.drop 1) 128 191 && tailP (t.drop 2) 128 191 then 4 else 0)
   else 0
def lineGo : Nat → Bs → Bool
 | _, [] => true
 | 0, _ :: _ => false
 | f + 1, b :: t => if sgn (b :: t) = 0 ∨ b.toNat < 32 ∨ b.toNat = 127 then false else lineGo f ((b :: t).drop (sgn (b :: t)))
def lineP (s : Bs) : Bool := lineGo s.length s
def nameP (s : Bs) : Bool := decide (s ≠ []) && decide (s ≠ [46]) && decide (s ≠ [46, 46]) && decide (s.length ≤ 255) && lineP s && !s.contains 47
def toldP (who : Bs) (time : Nat) (text : Bs) : Bool := decide (who.length ≤ 255) && lineP who && decide (time ≤ 1099511627776) && decide (text.length ≤ 4096)
def ltB : Bs → Bs → Bool
 | [], [] => false
 | [], _ :: _ => true
 | _ :: _, [] => false
 | a :: r, b :: s => decide (a.toNat < b.toNat) || (decide (a = b) && ltB r s)
def risingP : List Bs → Bool
 | [] => true
 | [_] => true
 | a :: b :: r => ltB a b && risingP (b :: r)
def okOb : Ob → Bool
 | .blob _ => true
 | .tree es => decide (es.length ≤ 1024) && es.all (fun e => decide (1 ≤ e.mode) && decide (e.mode ≤ 4)) && es.all (fun e => nameP e.name) && risingP (es.map (·.name))
 | .commit c => decide (c.parents.length ≤ 8) && decide c.parents.Nodup && toldP c.who c.time c.text
 | .tag t => decide (1 ≤ t.kind) && decide (t.kind ≤ 4) && nameP t.name && toldP t.who t.time t.text
theorem nameP_len {s : Bs} (h : nameP s = true) : s.length ≤ 255 := by
 unfold nameP at h
 simp only [Bool.and_eq_true, decide_eq_true_eq] at h
 exact h.1.1.2
theorem toldP_len {who text : Bs} {time : Nat} (h : toldP who time text = true) : who.length ≤ 255 ∧ time ≤ 1099511627776 ∧ text.length ≤ 4096 := by
 unfold toldP at h
 simp only [Bool.and_eq_true, decide_eq_true_eq] at h
 exact ⟨h.1.1.1, h.1.2, h.2⟩
theorem ok_fit {o : Ob} (h : okOb o = true) : ObFit o := by
 cases o with
 | blob b => trivial
 | tree es =>
   unfold okOb at h
   simp only [Bool.and_eq_true, decide_eq_true_eq, List.all_eq_true] at h
   refine ⟨h.1.1.1, fun e he => ⟨?_, nameP_len (h.1.2 e he)⟩⟩
   have := h.1.1.2 e he
   omega
 | commit c =>
   unfold okOb at h
   simp only [Bool.and_eq_true, decide_eq_true_eq] at h
   obtain ⟨h1, h2, h3⟩ := toldP_len h.2
   exact ⟨h.1.1, h1, by omega, h3⟩
 | tag t =>
   unfold okOb at h
   simp only [Bool.and_eq_true, decide_eq_true_eq] at h
   obtain ⟨h1, h2, h3⟩ := toldP_len h.2
   exact ⟨by omega, nameP_len h.1.2, h1, by omega, h3⟩
def parseP (l : Bs) : Option Ob :=
 if 65536 < l.length then none else
 match rOb l with
 | some (o, some []) => if okOb o then some o else none
 | _ => none
theorem ltB_irrefl : ∀ a : Bs, ltB a a = false
 | [] => rfl
 | a :: r => by simp [ltB, ltB_irrefl r]
theorem ltB_trans : ∀ a b c : Bs, ltB a b = true → ltB b c = true → ltB a c = true
 | [], [], c, h, _ => by cases h
 | [], _ :: _, [], _, h => by cases h
 | [], _ :: _, _ :: _, _, _ => rfl
 | _ :: _, [], c, h, _ => by cases h
 | _ :: _, _ :: _, [], _, h => by cases h
 | a :: r, b :: s, c :: t, h1, h2 => by
   simp only [ltB, Bool.or_eq_true, Bool.and_eq_true, decide_eq_true_eq] at h1 h2 ⊢
   rcases h1 with h1 | ⟨rfl, h1⟩ <;> rcases h2 with h2 | ⟨rfl, h2⟩
   · exact .inl (by omega)
   · exact .inl h1
   · exact .inl h2
   · exact .inr ⟨rfl, ltB_trans r s t h1 h2⟩
theorem ltB_total : ∀ a b : Bs, ltB a b = true ∨ a = b ∨ ltB b a = true
 | [], [] => .inr (.inl rfl)
 | [], _ :: _ => .inl rfl
 | _ :: _, [] => .inr (.inr rfl)
 | a :: r, b :: s => by
   simp only [ltB, Bool.or_eq_true, Bool.and_eq_true, decide_eq_true_eq]
   by_cases h1 : a.toNat < b.toNat
   · exact .inl (.inl h1)
   · by_cases h2 : b.toNat < a.toNat
     · exact .inr (.inr (.inl h2))
     · have e : a = b := UInt8.toNat_inj.1 (by omega)
       subst e
       rcases ltB_total r s with h | rfl | h
       · exact .inl (.inr ⟨rfl, h⟩)
       · exact .inr (.inl rfl)
       · exact .inr (.inr (.inr ⟨rfl, h⟩))
theorem ltB_asymm (a b : Bs) (h : ltB a b = true) : ltB b a = false := by
 cases h2 : ltB b a with
 | false => rfl
 | true => rw [← ltB_irrefl a]; exact (ltB_trans a b a h h2).symm
def Id.lt (a b : Id) : Bool := ltB a.1 b.1
theorem Id.lt_irrefl (a : Id) : Id.lt a a = false := ltB_irrefl _
theorem Id.lt_trans {a b c : Id} (h1 : Id.lt a b = true) (h2 : Id.lt b c = true) : Id.lt a c = true := ltB_trans _ _ _ h1 h2
theorem Id.lt_total (a b : Id) : Id.lt a b = true ∨ a = b ∨ Id.lt b a = true := by
 rcases ltB_total a.1 b.1 with h | h | h
 · exact .inl h
 · exact .inr (.inl (Subtype.ext h))
 · exact .inr (.inr h)
def Rise (l : List Id) : Prop := l.Pairwise fun a b => Id.lt a b = true
theorem Rise.ext : ∀ {l m : List Id}, Rise l → Rise m → (∀ i, i ∈ l ↔ i ∈ m) → l = m
 | [], [], _, _, _ => rfl
 | [], b :: m, _, _, h => by have := (h b).2 (by simp); simp at this
 | a :: l, [], _, _, h => by have := (h a).1 (by simp); simp at this
 | a :: l, b :: m, hl, hm, h => by
   obtain ⟨h1, h2⟩ := List.pairwise_cons.1 hl
   obtain ⟨h3, h4⟩ := List.pairwise_cons.1 hm
   have e : a = b := by
    rcases List.mem_cons.1 ((h a).1 (by simp)) with e | ha
    · exact e
    · rcases List.mem_cons.1 ((h b).2 (by simp)) with e | hb
      · exact e.symm
      · have := Id.lt_trans (h1 b hb) (h3 a ha)
        rw [Id.lt_irrefl] at this
        cases this
   subst e
   have hn1 : a ∉ l := fun ha => by have := h1 a ha; rw [Id.lt_irrefl] at this; cases this
   have hn2 : a ∉ m := fun ha => by have := h3 a ha; rw [Id.lt_irrefl] at this; cases this
   rw [Rise.ext h2 h4 (fun i => ?_)]
   constructor
   · intro hi
     rcases List.mem_cons.1 ((h i).1 (List.mem_cons_of_mem _ hi)) with rfl | h5
     · exact absurd hi hn1
     · exact h5
   · intro hi
     rcases List.mem_cons.1 ((h i).2 (List.mem_cons_of_mem _ hi)) with rfl | h5
     · exact absurd hi hn2
     · exact h5
def insI (i : Id) : List Id → List Id
 | [] => [i]
 | a :: l => if Id.lt i a then i :: a :: l else if i = a then a :: l else a :: insI i l
theorem mem_insI (i : Id) : ∀ (l : List Id) (j : Id), j ∈ insI i l ↔ j = i ∨ j ∈ l
 | [], j => by simp [insI]
 | a :: l, j => by
   unfold insI
   split
   · simp
   · split
     · rename_i h
       subst h
       simp
     · rw [List.mem_cons, mem_insI i l, List.mem_cons]
       constructor
       · rintro (h | h | h)
         · exact .inr (.inl h)
         · exact .inl h
         · exact .inr (.inr h)
       · rintro (h | h | h)
         · exact .inr (.inl h)
         · exact .inl h
         · exact .inr (.inr h)
theorem insI_rise (i : Id) : ∀ (l : List Id), Rise l → Rise (insI i l)
 | [], _ => by simp [insI, Rise]
 | a :: l, h => by
   obtain ⟨h1, h2⟩ := List.pairwise_cons.1 h
   unfold insI
   split
   · rename_i h3
     refine List.pairwise_cons.2 ⟨fun b hb => ?_, h⟩
     rcases List.mem_cons.1 hb with rfl | hb
     · exact h3
     · exact Id.lt_trans h3 (h1 b hb)
   · split
     · exact h
     · rename_i h3 h4
       refine List.pairwise_cons.2 ⟨fun b hb => ?_, insI_rise i l h2⟩
       rcases (mem_insI i l b).1 hb with rfl | hb
       · rcases Id.lt_total b a with h5 | h5 | h5
         · exact absurd h5 h3
         · exact absurd h5 h4
         · exact h5
       · exact h1 b hb
def sortI (l : List Id) : List Id := l.foldr insI []
theorem mem_sortI (l : List Id) (j : Id) : j ∈ sortI l ↔ j ∈ l := by
 unfold sortI
 induction l with
 | nil => simp
 | cons a l ih => rw [List.foldr_cons, mem_insI, ih, List.mem_cons]
theorem sortI_rise (l : List Id) : Rise (sortI l) := by
 unfold sortI
 induction l with
 | nil => exact List.Pairwise.nil
 | cons a l ih => exact insI_rise a _ ih
theorem sortI_eq {l m : List Id} (hm : Rise m) (h : ∀ i, i ∈ m ↔ i ∈ l) : sortI l = m :=
 Rise.ext (sortI_rise l) hm (fun i => by rw [mem_sortI, h])
inductive Rch (nx : Id → List Id) (rs : List Id) : Id → Prop
 | root {i : Id} (h : i ∈ rs) : Rch nx rs i
 | step {i j : Id} (h : Rch nx rs i) (hj : j ∈ nx i) : Rch nx rs j
noncomputable def comeP (nx : Id → List Id) (rs : List Id) : List Id :=
 open Classical in if h : ∃ l, Rise l ∧ ∀ i, i ∈ l ↔ Rch nx rs i then h.choose else []
theorem comeP_eq {nx : Id → List Id} {rs l : List Id} (hl : Rise l) (h : ∀ i, i ∈ l ↔ Rch nx rs i) : comeP nx rs = l := by
 have hx : ∃ l, Rise l ∧ ∀ i, i ∈ l ↔ Rch nx rs i := ⟨l, hl, h⟩
 unfold comeP
 rw [dif_pos hx]
 exact Rise.ext hx.choose_spec.1 hl (fun i => by rw [hx.choose_spec.2, h])
theorem comeP_of {nx : Id → List Id} {rs l : List Id} (h : ∀ i, i ∈ l ↔ Rch nx rs i) : comeP nx rs = sortI l :=
 comeP_eq (sortI_rise l) (fun i => by rw [mem_sortI, h])
theorem Rch.sub {nx : Id → List Id} {rs : List Id} {S : Id → Prop} (h1 : ∀ i ∈ rs, S i) (h2 : ∀ i, S i → ∀ j ∈ nx i, S j) {i : Id} (h : Rch nx rs i) : S i := by
 induction h with
 | root h => exact h1 _ h
 | step _ hj ih => exact h2 _ ih _ hj
theorem Rch.finite (nx : Id → List Id) (rs dom : List Id) (h : ∀ i, i ∉ dom → nx i = []) : ∃ l, Rise l ∧ ∀ i, i ∈ l ↔ Rch nx rs i := by
 have : ∃ l : List Id, ∀ i, Rch nx rs i → i ∈ l := by
  refine ⟨rs ++ dom.flatMap nx, fun i hi => ?_⟩
  induction hi with
  | root h => simp [h]
  | @step a b _ hj _ =>
    by_cases hd : a ∈ dom
    · simp only [List.mem_append, List.mem_flatMap]
      exact .inr ⟨a, hd, hj⟩
    · rw [h a hd] at hj
      cases hj
 obtain ⟨l, hl⟩ := this
 open Classical in
 refine ⟨sortI (l.filter fun i => decide (Rch nx rs i)), sortI_rise _, fun i => ?_⟩
 rw [mem_sortI, List.mem_filter]
 simp only [decide_eq_true_eq]
 exact ⟨fun h => h.2, fun h => ⟨hl i h, h⟩⟩
theorem comeP_rise (nx : Id → List Id) (rs : List Id) : Rise (comeP nx rs) := by
 unfold comeP
 split
 · rename_i h
   exact h.choose_spec.1
 · exact List.Pairwise.nil
theorem mem_comeP (nx : Id → List Id) (rs dom : List Id) (h : ∀ i, i ∉ dom → nx i = []) (i : Id) : i ∈ comeP nx rs ↔ Rch nx rs i := by
 have hx := Rch.finite nx rs dom h
 unfold comeP
 rw [dif_pos hx]
 exact hx.choose_spec.2 i
abbrev Lnk := Id × Nat
def shaI (b : Bs) : Id := ⟨Dg.sha b, Dg.sha_length b⟩
def kindOb : Ob → Nat
 | .blob _ => 1
 | .tree _ => 2
 | .commit _ => 3
 | .tag _ => 4
def childOb : Ob → List Lnk
 | .blob _ => []
 | .tree es => es.map fun e => (e.id, if e.mode = 4 then 2 else 1)
 | .commit c => (c.tree, 2) :: c.parents.map fun p => (p, 3)
 | .tag t => [(t.target, t.kind)]
def kindB (b : Bs) : Nat := match parseP b with | some o => kindOb o | none => 0
def childB (b : Bs) : List Lnk := match parseP b with | some o => childOb o | none => []
abbrev Sto := List (Id × Bs)
def getS (s : Sto) (i : Id) : Option Bs := (s.find? fun x => x.1 = i).map (·.2)
def idsS (s : Sto) : List Id := s.map (·.1)
def insS (i : Id) (b : Bs) : Sto → Sto
 | [] => [(i, b)]
 | x :: s => if Id.lt i x.1 then (i, b) :: x :: s else x :: insS i b s
def putE (s : Sto) (b : Bs) : Nat :=
 if parseP b = none then 40 else
 match getS s (shaI b) with
 | some old => if old = b then 0 else 45
 | none => if 8192 ≤ s.length then 44 else 0
def putS (s : Sto) (b : Bs) : Sto :=
 if parseP b = none then s else
 match getS s (shaI b) with
 | some _ => s
 | none => if 8192 ≤ s.length then s else insS (shaI b) b s
structure StoOk (s : Sto) : Prop where
 rise : Rise (idsS s)
 ok : ∀ x ∈ s, (parseP x.2).isSome = true ∧ x.1 = shaI x.2
 len : s.length ≤ 8192
theorem StoOk.nil : StoOk [] := ⟨List.Pairwise.nil, by simp, by simp⟩
theorem mem_insS (i : Id) (b : Bs) : ∀ (s : Sto) (x : Id × Bs), x ∈ insS i b s ↔ x = (i, b) ∨ x ∈ s
 | [], x => by simp [insS]
 | y :: s, x => by
   unfold insS
   split
   · simp
   · rw [List.mem_cons, mem_insS i b s, List.mem_cons]
     constructor
     · rintro (h | h | h)
       · exact .inr (.inl h)
       · exact .inl h
       · exact .inr (.inr h)
     · rintro (h | h | h)
       · exact .inr (.inl h)
       · exact .inl h
       · exact .inr (.inr h)
theorem insS_length (i : Id) (b : Bs) : ∀ (s : Sto), (insS i b s).length = s.length + 1
 | [] => rfl
 | y :: s => by
   unfold insS
   split
   · rfl
   · simp [insS_length i b s]
theorem insS_rise (i : Id) (b : Bs) : ∀ (s : Sto), Rise (idsS s) → i ∉ idsS s → Rise (idsS (insS i b s))
 | [], _, _ => by simp [insS, idsS, Rise]
 | y :: s, h, hn => by
   obtain ⟨h1, h2⟩ := List.pairwise_cons.1 h
   have hn1 : i ≠ y.1 := fun e => hn (by simp [idsS, e])
   have hn2 : i ∉ idsS s := fun e => hn (List.mem_cons_of_mem _ e)
   unfold insS
   split
   · rename_i h3
     refine List.pairwise_cons.2 ⟨fun a ha => ?_, h⟩
     rcases List.mem_cons.1 ha with rfl | ha
     · exact h3
     · exact Id.lt_trans h3 (h1 a ha)
   · rename_i h3
     refine List.pairwise_cons.2 ⟨fun a ha => ?_, insS_rise i b s h2 hn2⟩
     obtain ⟨x, hx, rfl⟩ := List.mem_map.1 ha
     rcases (mem_insS i b s x).1 hx with rfl | hx
     · rcases Id.lt_total i y.1 with h5 | h5 | h5
       · exact absurd h5 h3
       · exact absurd h5 hn1
       · exact h5
     · exact h1 _ (List.mem_map.2 ⟨x, hx, rfl⟩)
theorem getS_none {s : Sto} {i : Id} : getS s i = none ↔ i ∉ idsS s := by
 unfold getS idsS
 rw [Option.map_eq_none_iff, List.find?_eq_none]
 simp only [decide_eq_true_eq, List.mem_map, not_exists, not_and]
theorem getS_mem {s : Sto} {i : Id} {b : Bs} (h : getS s i = some b) : (i, b) ∈ s := by
 unfold getS at h
 rw [Option.map_eq_some_iff] at h
 obtain ⟨x, hx, rfl⟩ := h
 have h1 := List.mem_of_find?_eq_some hx
 have h2 := List.find?_some hx
 simp only [decide_eq_true_eq] at h2
 rw [← h2]
 exact h1
theorem getS_of_mem : ∀ {s : Sto} {i : Id} {b : Bs}, Rise (idsS s) → (i, b) ∈ s → getS s i = some b
 | [], i, b, _, h => by cases h
 | y :: s, i, b, hr, h => by
   obtain ⟨h1, h2⟩ := List.pairwise_cons.1 hr
   unfold getS
   rw [List.find?_cons]
   rcases List.mem_cons.1 h with rfl | h
   · simp
   · have hne : y.1 ≠ i := fun e => by
      have := h1 i (List.mem_map.2 ⟨_, h, rfl⟩)
      rw [← e, Id.lt_irrefl] at this
      cases this
     simp only [hne, decide_false]
     exact getS_of_mem h2 h
theorem getS_insS {s : Sto} {i j : Id} {b : Bs} (hr : Rise (idsS s)) (hn : i ∉ idsS s) : getS (insS i b s) j = if j = i then some b else getS s j := by
 have hr2 := insS_rise i b s hr hn
 by_cases hj : j = i
 · subst hj
   rw [if_pos rfl]
   exact getS_of_mem hr2 ((mem_insS j b s _).2 (.inl rfl))
 · rw [if_neg hj]
   cases h : getS s j with
   | some c => exact getS_of_mem hr2 ((mem_insS i b s _).2 (.inr (getS_mem h)))
   | none =>
     rw [getS_none] at h ⊢
     intro hm
     obtain ⟨x, hx, rfl⟩ := List.mem_map.1 hm
     rcases (mem_insS i b s x).1 hx with rfl | hx
     · exact hj rfl
     · exact h (List.mem_map.2 ⟨x, hx, rfl⟩)
theorem StoOk.put {s : Sto} (h : StoOk s) (b : Bs) : StoOk (putS s b) := by
 unfold putS
 by_cases hp : parseP b = none
 · rw [if_pos hp]; exact h
 · rw [if_neg hp]
   split
   · exact h
   · rename_i hn
     by_cases hl : 8192 ≤ s.length
     · rw [if_pos hl]; exact h
     · rw [if_neg hl]
       refine ⟨insS_rise _ b s h.rise (getS_none.1 hn), fun x hx => ?_, by rw [insS_length]; omega⟩
       rcases (mem_insS _ b s x).1 hx with rfl | hx
       · refine ⟨?_, rfl⟩
         cases hq : parseP b with
         | none => exact absurd hq hp
         | some o => rfl
       · exact h.ok x hx
def kindS (s : Sto) (i : Id) : Nat := match getS s i with | some b => kindB b | none => 0
def childS (s : Sto) (i : Id) : List Lnk := match getS s i with | some b => childB b | none => []
def hasS (s : Sto) (i : Id) : Bool := (getS s i).isSome
theorem kindOb_pos (o : Ob) : 1 ≤ kindOb o ∧ kindOb o ≤ 4 := by cases o <;> simp [kindOb]
theorem StoOk.kind {s : Sto} (h : StoOk s) (i : Id) : kindS s i = 0 ↔ hasS s i = false := by
 unfold kindS hasS
 cases hg : getS s i with
 | none => simp
 | some b =>
   have := (h.ok _ (getS_mem hg)).1
   simp only [Option.isSome_some, Bool.true_eq_false, iff_false]
   unfold kindB
   cases hp : parseP b with
   | none => rw [hp] at this; cases this
   | some o => have := kindOb_pos o; simp only; omega
theorem kindS_le (s : Sto) (i : Id) : kindS s i ≤ 4 := by
 unfold kindS kindB
 split
 · split
   · exact (kindOb_pos _).2
   · omega
 · omega
def delS (s : Sto) (i : Id) : Sto := s.filter fun x => decide (x.1 ≠ i)
theorem idsS_del (s : Sto) (i : Id) : idsS (delS s i) = (idsS s).filter fun j => decide (j ≠ i) := by
 unfold idsS delS
 rw [List.filter_map]
 rfl
theorem StoOk.del {s : Sto} (h : StoOk s) (i : Id) : StoOk (delS s i) := by
 refine ⟨?_, fun x hx => h.ok x (List.mem_filter.1 hx).1, Nat.le_trans (List.length_filter_le _ _) h.len⟩
 rw [idsS_del]
 exact List.Pairwise.filter _ h.rise
end Go.Proofs.YtnjhjbmngoeobaaGreatDoor
namespace Go.Proofs.YtnjhjbmngoeobaaGreatDoor
open Go.RowKit
set_option maxRecDepth 100000
theorem results_cell_row_tmp {P : Program} {fn : Func} {p u : Tmp} {ty : TypeId} (h : fn.results = #[.cell p ty, .tmp u]) (tmps : Array Value) (w : World) (g : Nat) (t : TypeId) (cs : Array Value) (fr : Nat × Nat) (d : TypeDesc)
 (hp : tmps.getD p undef = .pointer (some ⟨g, 0, none⟩)) (hg : w.heap[g]? = some (.cells cs t fr))
 (hu : P.underlying ty = some d) (hd : (match d with | .struct _ | .array _ _ => true | _ => false) = true) (hi : (P.info? ty).map (·.size) = some cs.size) :
 (results fn tmps).run P w = .ok (.tuple #[.agg cs, tmps.getD u undef]) w := by
 have hp' : tmps[p]?.getD undef = .pointer (some ⟨g, 0, none⟩) := by simpa using hp
 simp [results, h, hp', asAddr, run_loadVar_row w g t ty cs fr d hg hu hd hi]
def ObL (o : Ob) (l : List Value) : Prop := l.length = 76 ∧ (∀ v ∈ l, v.oneCell' = true) ∧ l[0]? = some (.int .i64 (kindOb o : Int)) ∧ ∀ c, o = .commit c → l[37]? = some (.int .u64 (c.time : Int))
theorem object_any (o : Ob) (v : Value) (B : Nat) (w w0 : World) (h : ThingV w0 B o v) : Calls Tryz.prog 41 #[v] w fun e w' => ∃ l, e = .returned (.agg l.toArray) ∧ ObL o l ∧ Below w.heap.size w w' := by
 cases o with
 | blob b =>
   obtain ⟨q, n, rfl, _⟩ := h
   refine (object_blob _ _ _ w).mono ?_
   rintro e w' ⟨rfl, hb⟩
   refine ⟨_, rfl, ⟨obL_length _ _ _ _ _ zCom_length zTag_length, obL_one _ _ _ _ _ rfl rfl rfl zCom_one zTag_one, rfl, fun c hc => by cases hc⟩, hb⟩
 | tree es =>
   obtain ⟨A, k, rfl, _⟩ := h
   refine (object_tree _ _ _ w).mono ?_
   rintro e w' ⟨rfl, hb⟩
   refine ⟨_, rfl, ⟨obL_length _ _ _ _ _ zCom_length zTag_length, obL_one _ _ _ _ _ rfl rfl rfl zCom_one zTag_one, rfl, fun c hc => by cases hc⟩, hb⟩
 | commit c =>
   obtain ⟨A, k, rfl, _⟩ := h
   have h1 := object_commit c.tree (.slice A c.parents.length k) (.string ⟨c.who.toArray⟩) (.int .u64 (c.time : Int)) (.string ⟨c.text.toArray⟩) rfl rfl rfl rfl w
   refine h1.mono ?_
   rintro e w' ⟨rfl, hb⟩
   refine ⟨_, rfl, ⟨obL_length _ _ _ _ _ (comL_length _ _ _ _ _) zTag_length, obL_one _ _ _ _ _ rfl rfl rfl (comL_one _ _ _ _ _ rfl rfl rfl rfl) zTag_one, rfl, fun c' hc => ?_⟩, hb⟩
   injection hc with hc
   subst hc
   have e1 := (comL_at c.tree (.slice A c.parents.length k) (.string ⟨c.who.toArray⟩) (.int .u64 (c.time : Int)) (.string ⟨c.text.toArray⟩)).2.2.1
   unfold obL
   rw [List.getElem?_append_right (by simp)]
   rw [List.getElem?_append_left (by rw [comL_length]; simp)]
   exact e1
 | tag t =>
   obtain rfl := h
   have h1 := object_tag t.target (.int .i64 (t.kind : Int)) (.string ⟨t.name.toArray⟩) (.string ⟨t.who.toArray⟩) (.int .u64 (t.time : Int)) (.string ⟨t.text.toArray⟩) rfl rfl rfl rfl rfl w
   refine h1.mono ?_
   rintro e w' ⟨rfl, hb⟩
   exact ⟨_, rfl, ⟨obL_length _ _ _ _ _ zCom_length (tagL_length _ _ _ _ _ _), obL_one _ _ _ _ _ rfl rfl rfl zCom_one (tagL_one _ _ _ _ _ _ rfl rfl rfl rfl rfl), rfl, fun c hc => by cases hc⟩, hb⟩
def WholePost (w : World) (o : Ob) (e : Ending) (w' : World) : Prop := ∃ l, e = .returned (.tuple #[.agg l.toArray, .int .i64 0]) ∧ ObL o l ∧ Below w.heap.size w w'
set_option maxHeartbeats 4000000 in
theorem parseW_any (o : Ob) (n c : Nat) (A : Option Addr) (w : World) (hp : ∀ wA, w.grownBy wA none → Calls Tryz.prog 40 #[.slice A n c] wA (ParsePost wA o)) :
 Calls Tryz.prog 15 #[.slice A n c] w (WholePost w o) := by
 obtain ⟨wA, hwA⟩ : ∃ wA, wA = w.alloc (.cells Tryz.zeroCells47 47) := ⟨_, rfl⟩
 have HTA : Hid (wA.heap[w.heap.size]? = some (.cells zOb.toArray 47 (0, 0))) := by rw [hwA]; exact (ob_new w).out
 have HGA : Hid (w.grownBy wA none) := by rw [hwA]; exact gb_alloc (gb_refl w none) _
 have HLT : Hid (w.heap.size < wA.heap.size) := by show _ < _; rw [hwA]; simp
 have HP := Lib.hid (hp wA HGA.out)
 clear hp
 go_enter Tryz.func15, Tryz.ntmps15
 go_upto_region 1 with fail
 rw [← hwA]
 clear hwA
 go_wp2_with fail
 refine HP.out.mono ?_
 rintro e w1 ⟨v, rfl, hv, hb1⟩
 have HT1 : Hid (w1.heap[w.heap.size]? = some (.cells zOb.toArray 47 (0, 0))) := (hb1.block _ HLT.out).trans HTA.out
 have HB1 : Hid (Below w.heap.size w w1) := (below_of_gb HGA.out).trans (hb1.mono HGA.out.size)
 have HO := Lib.hid (object_any o v _ w1 w1 hv)
 have HS1 := Lib.hid hb1.size
 clear hv hb1 HP HTA
 go_wp2_with fail
 refine HO.out.mono ?_
 rintro e w2 ⟨l, rfl, hl, hb2⟩
 have HL := Lib.hid hl
 have HT2 : Hid (w2.heap[w.heap.size]? = some (.cells zOb.toArray 47 (0, 0))) := (hb2.block _ (Nat.lt_of_lt_of_le HLT.out HS1.out)).trans HT1.out
 have HB2 : Hid (Below w.heap.size w w2) := HB1.out.trans (hb2.mono HB1.out.size)
 have HSI : Hid ((Tryz.prog.info? 47).map (·.size) = some l.length) := by rw [hl.1]; exact info_ob
 have HSA : Hid ((Tryz.prog.info? 47).map (·.size) = some l.toArray.size) := by rw [List.size_toArray, hl.1]; exact info_ob
 have HFT : Hid (0 + l.length ≤ zOb.length) := by rw [hl.1]; exact Nat.le_refl _
 have HON : Hid (∀ v ∈ l, v.oneCell' = true) := hl.2.1
 clear hl hb2 HT1 HO
 go_wp2_with (with_reducible refine wpList_storeG rfl 47 (.tmp 2) (.tmp 16) rfl w.heap.size 0 l rfl rfl zOb 47 HT2.out HFT.out HON.out HSI.out ?_; intro w3 HB3 HG3)
 have HRW : Hid (w3.heap[w.heap.size]? = some (.cells l.toArray 47 (0, 0))) := by
  have h1 := HB3.out
  rw [splice_all _ _ (by rw [HL.out.1]; rfl)] at h1
  exact h1
 have HV : Hid (WholePost w o (.returned (.tuple #[.agg l.toArray, .int .i64 0])) w3) := ⟨l, rfl, HL.out, HB2.out.trans (below_of_gb_some HG3.out (Nat.le_refl _) HB2.out.size)⟩
 exact bodyPost_ret (v := .tuple #[.agg l.toArray, .int .i64 0]) (results_cell_row_tmp Tryz.results15 _ w3 w.heap.size 47 l.toArray (0, 0) _ rfl HRW.out Tryz.underlying47 rfl HSA.out) rfl HV.out
set_option maxHeartbeats 4000000 in
theorem kind_any (o : Ob) (n c : Nat) (A : Option Addr) (w : World) (hp : ∀ wA, w.grownBy wA none → Calls Tryz.prog 40 #[.slice A n c] wA (ParsePost wA o)) :
 Calls Tryz.prog 68 #[.slice A n c] w fun e w' => e = .returned (.int .i64 (kindOb o : Int)) ∧ Below w.heap.size w w' := by
 have HP := Lib.hid (parseW_any o n c A w hp)
 clear hp
 go_enter Tryz.func68, Tryz.ntmps68
 go_wp2_with fail
 refine HP.out.mono ?_
 rintro e w1 ⟨l, rfl, hl, hb1⟩
 have HN : Hid ((w1.alloc (.cells Tryz.zeroCells47 47)).heap[w1.heap.size]? = some (.cells zOb.toArray 47 (0, 0))) := ob_new w1
 have HB1 := Lib.hid hb1
 have HL := Lib.hid hl
 have HSI : Hid ((Tryz.prog.info? 47).map (·.size) = some l.length) := by rw [hl.1]; exact info_ob
 have HFT : Hid (0 + l.length ≤ zOb.length) := by rw [hl.1]; exact Nat.le_refl _
 have HON : Hid (∀ v ∈ l, v.oneCell' = true) := hl.2.1
 clear hl hb1 HP
 go_upto_region 2 with (with_reducible refine wpList_storeG rfl 47 (.tmp 3) (.tmp 8) rfl w1.heap.size 0 l rfl rfl zOb 47 HN.out HFT.out HON.out HSI.out ?_; intro w3 HB3 HG3)
 have HRW : Hid (Blk w3 w1.heap.size 47 l.toArray) := by
  have h1 := HB3.out
  rw [splice_all _ _ (by rw [HL.out.1]; rfl)] at h1
  exact h1
 have HG3 := Lib.hid (below_of_gb (gb_fresh HG3.out))
 have HBB : Hid (Below w.heap.size w w3) := HB1.out.trans (HG3.out.mono HB1.out.size)
 have c0 : w3.cell? ⟨w1.heap.size, 0, none⟩ = some (.int .i64 (kindOb o : Int)) := by rw [HRW.out.cell, List.getElem?_toArray, HL.out.2.2.1]
 clear HB3 HG3 HN
 go_wp2_with fail
 go_ret
 exact ⟨rfl, HBB.out⟩
set_option maxHeartbeats 4000000 in
theorem oid_any (n c : Nat) (A : Option Addr) (bs : List UInt8) (w : World) (h : Sl w A bs) (htab : DigTab w) (hn : bs.length = n) (hnc : n ≤ c) (hb : bs.length ≤ 1152921504606840000) :
 Calls Tryz.prog 16 #[.slice A n c] w fun e w' => e = .returned (.agg (U (Dg.sha bs)).toArray) ∧ Below w.heap.size w w' := by
 have HS := h.alloc (.cells (idC []) 30)
 have HTAB := htab.below (((Below.refl w.heap.size w)).alloc (Nat.le_refl _) (.cells (idC []) 30))
 have HD := Lib.hid (dsum_any n c A bs _ HS HTAB hn hnc hb)
 have HLN : (Dg.sha bs).length = 32 := Dg.sha_length bs
 have HSZ := Lib.hid (id_size _ HLN)
 have HSZ2 := Lib.hid (id_size' _ HLN)
 have HFT := Lib.hid (id_fit _ HLN)
 have HSP := Lib.hid (splice_id _ HLN)
 have HT : Hid ((w.alloc (.cells (idC []) 30)).heap[w.heap.size]? = some (.cells (U (List.replicate 32 0)).toArray 30 (0, 0))) := by rw [idT_eq]; exact heap_alloc_new w _
 have HBA : Hid (Below w.heap.size w (w.alloc (.cells (idC []) 30))) := ((Below.refl w.heap.size w)).alloc (Nat.le_refl _) _
 have HZ := Lib.hid z32_id
 clear h htab hn hnc hb HLN HS HTAB
 generalize Dg.sha bs = y at *
 go_enter Tryz.func16, Tryz.ntmps16
 go_wp2_with fail
 rw [HZ.out]
 generalize hwA : w.alloc (.cells (idC []) 30) = wA at *
 refine HD.out.mono ?_
 rintro e w1 ⟨rfl, hb1⟩
 have hlt : w.heap.size < wA.heap.size := by rw [← hwA]; simp
 have HT1 : Hid (w1.heap[w.heap.size]? = some (.cells (U (List.replicate 32 0)).toArray 30 (0, 0))) := (hb1.block _ hlt).trans HT.out
 have HB1 : Hid (Below w.heap.size w w1) := HBA.out.trans (hb1.mono HBA.out.size)
 clear hb1 HT HBA HD hwA hlt
 go_wp2_with (with_reducible refine wpList_storeG rfl 30 (.tmp 2) (.tmp 4) rfl w.heap.size 0 (U y) rfl rfl (U (List.replicate 32 0)) 30 HT1.out HFT.out (U_one _) HSZ.out ?_; intro w9 HT9 HG9)
 have HRW : Hid (w9.heap[w.heap.size]? = some (.cells (U y).toArray 30 (0, 0))) := by
  have h1 := HT9.out
  rw [HSP.out] at h1
  exact h1
 have HBF : Hid (Below w.heap.size w w9) := HB1.out.trans (below_of_gb_some HG9.out (Nat.le_refl _) HB1.out.size)
 exact bodyPost_ret (v := .agg (U y).toArray) (results_cell_row Tryz.results16 _ w9 w.heap.size 30 (U y).toArray (0, 0) _ rfl HRW.out Tryz.underlying30 rfl HSZ2.out) rfl ⟨rfl, HBF.out⟩
end Go.Proofs.YtnjhjbmngoeobaaGreatDoor
