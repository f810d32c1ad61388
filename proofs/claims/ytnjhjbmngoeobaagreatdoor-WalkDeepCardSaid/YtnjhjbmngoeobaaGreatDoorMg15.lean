/- Laws towards WalkDeep: QueP, MakP, StrH. -/
import Derived.Test.YtnjhjbmngoeobaaGreatDoorMg14
namespace Go.Proofs.YtnjhjbmngoeobaaGreatDoor
set_option maxRecDepth 20000
structure Cst where
 ks : List Id
 q : List Id
 ls : List Lnk
def addC (S : Sto) (i : Id) (c : Cst) : Cst :=
 if i ∈ c.ks then c else { ks := c.ks ++ [i], q := if kindS S i = 0 then c.q else c.q ++ [i], ls := c.ls }
def noteC (l : Lnk) (c : Cst) : Cst := { ks := c.ks, q := c.q, ls := c.ls ++ [l] }
def linkC (S : Sto) (l : Lnk) (c : Cst) : Cst := addC S l.1 (noteC l c)
def popL : List Id → List Id
 | [] => []
 | _ :: r => if h : r = [] then [] else r.getLast h :: r.dropLast
theorem popL_cons (x : Id) (r : List Id) : popL (x :: r) = if h : r = [] then [] else r.getLast h :: r.dropLast := rfl
theorem mem_popL (x : Id) (r : List Id) (y : Id) : y ∈ popL (x :: r) ↔ y ∈ r := by
 rw [popL_cons]
 by_cases h : r = []
 · rw [dif_pos h, h]
 · rw [dif_neg h, List.mem_cons]
   conv => rhs; rw [← List.dropLast_concat_getLast h]
   rw [List.mem_append, List.mem_singleton]
   exact Or.comm
theorem popL_length (x : Id) (r : List Id) : (popL (x :: r)).length = r.length := by
 rw [popL_cons]
 by_cases h : r = []
 · rw [dif_pos h, h]
 · rw [dif_neg h]
   have := List.length_pos_iff.2 h
   rw [List.length_cons, List.length_dropLast]
   omega
def popC (c : Cst) : Cst := { ks := c.ks, q := popL c.q, ls := c.ls }
def missing_ (S : Sto) (ks : List Id) : Nat := ((idsS S).filter fun i => decide (i ∉ ks)).length
def muC (S : Sto) (c : Cst) : Nat := 2 * missing_ S c.ks + c.q.length
theorem missing_le (S : Sto) (ks : List Id) : missing_ S ks ≤ S.length := by
 unfold missing_
 refine Nat.le_trans (List.length_filter_le _ _) ?_
 simp [idsS]
theorem filter_mono {l : List Id} {p q : Id → Bool} (h : ∀ i, p i = true → q i = true) : (l.filter p).length ≤ (l.filter q).length := by
 induction l with
 | nil => simp
 | cons a l ih =>
   rw [List.filter_cons, List.filter_cons]
   cases hp : p a with
   | true => rw [h a hp]; simp; exact ih
   | false =>
     cases q a with
     | true => simp; omega
     | false => simpa using ih
theorem filter_lt {l : List Id} {p q : Id → Bool} (h : ∀ i, p i = true → q i = true) {x : Id} (hx : x ∈ l) (hp : p x = false) (hq : q x = true) : (l.filter p).length < (l.filter q).length := by
 induction l with
 | nil => cases hx
 | cons a l ih =>
   rw [List.filter_cons, List.filter_cons]
   by_cases e : a = x
   · subst e
     rw [hp, hq]
     have := filter_mono (l := l) h
     simp
     omega
   · have hx : x ∈ l := by
      rcases List.mem_cons.1 hx with e2 | h2
      · exact absurd e2.symm e
      · exact h2
     have := ih hx
     cases hpa : p a with
     | true => rw [h a hpa]; simpa using this
     | false =>
       cases q a with
       | true => simp; omega
       | false => simpa using this
theorem missing_add (S : Sto) (ks : List Id) (i : Id) : missing_ S (ks ++ [i]) ≤ missing_ S ks := by
 unfold missing_
 refine filter_mono (fun j hj => ?_)
 simp only [decide_eq_true_eq, List.mem_append, not_or] at hj ⊢
 exact hj.1
theorem kindS_in {S : Sto} {i : Id} (h : kindS S i ≠ 0) : i ∈ idsS S := by
 by_cases hi : i ∈ idsS S
 · exact hi
 · exact absurd (kindS_absent hi) h
theorem missing_new {S : Sto} {ks : List Id} {i : Id} (hk : kindS S i ≠ 0) (hi : i ∉ ks) : missing_ S (ks ++ [i]) < missing_ S ks := by
 unfold missing_
 refine filter_lt (x := i) (fun j hj => ?_) (kindS_in hk) (by simp) (by simpa using hi)
 simp only [decide_eq_true_eq, List.mem_append, not_or] at hj ⊢
 exact hj.1
theorem mu_add (S : Sto) (i : Id) (c : Cst) : muC S (addC S i c) ≤ muC S c := by
 unfold addC
 split
 · exact Nat.le_refl _
 · rename_i hi
   unfold muC
   by_cases hk : kindS S i = 0
   · simp only [hk, if_true]
     have := missing_add S c.ks i
     omega
   · simp only [hk, if_false]
     have := missing_new hk hi
     simp
     omega
theorem mu_link (S : Sto) (l : Lnk) (c : Cst) : muC S (linkC S l c) ≤ muC S c := mu_add S l.1 (noteC l c)
theorem ks_add (S : Sto) (i : Id) (c : Cst) (j : Id) : j ∈ (addC S i c).ks ↔ j ∈ c.ks ∨ j = i := by
 unfold addC
 split
 · rename_i h
   constructor
   · exact .inl
   · rintro (h2 | rfl)
     · exact h2
     · exact h
 · simp
theorem ls_add (S : Sto) (i : Id) (c : Cst) : (addC S i c).ls = c.ls := by unfold addC; split <;> rfl
theorem q_add (S : Sto) (i : Id) (c : Cst) {j : Id} (h : j ∈ (addC S i c).q) : j ∈ c.q ∨ (j = i ∧ kindS S i ≠ 0) := by
 unfold addC at h
 split at h
 · exact .inl h
 · by_cases hk : kindS S i = 0
   · simp only [hk, if_true] at h; exact .inl h
   · simp only [hk, if_false, List.mem_append, List.mem_singleton] at h
     rcases h with h | h
     · exact .inl h
     · exact .inr ⟨h, hk⟩
theorem q_add_old (S : Sto) (i : Id) (c : Cst) {j : Id} (h : j ∈ c.q) : j ∈ (addC S i c).q := by
 unfold addC
 split
 · exact h
 · by_cases hk : kindS S i = 0
   · simp only [hk, if_true]; exact h
   · simp only [hk, if_false, List.mem_append]; exact .inl h
theorem q_add_new (S : Sto) (i : Id) (c : Cst) (hn : i ∉ c.ks) (hk : kindS S i ≠ 0) : i ∈ (addC S i c).q := by
 unfold addC
 rw [if_neg hn]
 simp [hk]
def Quiet (S : Sto) (f : Id → List Lnk) : Prop := ∀ i, kindS S i = 0 → f i = []
theorem quiet_of {S : Sto} (hs : StoOk S) {f : Id → List Lnk} (h : Within S f) : Quiet S f := fun i hi => h i (fun hm => by
 have := (hs.kind i).1 hi
 rw [(has_ids S i).2 hm] at this
 cases this)
structure CInv (S : Sto) (f : Id → List Lnk) (rs : List Id) (pend : List Id) (c : Cst) : Prop where
 reach : ∀ i ∈ c.ks, Rch (nxt_ f) rs i
 nd : c.ks.Nodup
 qk : ∀ i ∈ c.q, i ∈ c.ks
 full : ∀ i ∈ c.ks, i ∉ c.q → i ∉ pend → ∀ l ∈ f i, l.1 ∈ c.ks ∧ l ∈ c.ls
 met : ∀ l ∈ c.ls, ∃ i ∈ c.ks, l ∈ f i
theorem CInv.start (S : Sto) (f : Id → List Lnk) (rs : List Id) : CInv S f rs [] ⟨[], [], []⟩ :=
 ⟨by simp, List.nodup_nil, by simp, by simp, by simp⟩
theorem CInv.add {S : Sto} {f : Id → List Lnk} {rs pend : List Id} {c : Cst} (h : CInv S f rs pend c) (hw : Quiet S f) (i : Id) (hi : Rch (nxt_ f) rs i) : CInv S f rs pend (addC S i c) := by
 refine ⟨fun j hj => ?_, ?_, fun j hj => ?_, fun j hj hq hp l hl => ?_, fun l hl => ?_⟩
 · rcases (ks_add S i c j).1 hj with hj | rfl
   · exact h.reach j hj
   · exact hi
 · unfold addC
   split
   · exact h.nd
   · rename_i hn
     simp only
     rw [List.nodup_append]
     exact ⟨h.nd, by simp, fun a ha b hb => by rw [List.mem_singleton] at hb; subst hb; exact fun e => hn (e ▸ ha)⟩
 · rcases q_add S i c hj with hj | ⟨rfl, _⟩
   · exact (ks_add S i c j).2 (.inl (h.qk j hj))
   · exact (ks_add S j c j).2 (.inr rfl)
 · rw [ls_add]
   by_cases hjk : j ∈ c.ks
   · have hq0 : j ∉ c.q := fun hx => hq (q_add_old S i c hx)
     obtain ⟨h1, h2⟩ := h.full j hjk hq0 hp l hl
     exact ⟨(ks_add S i c _).2 (.inl h1), h2⟩
   · rcases (ks_add S i c j).1 hj with hj | rfl
     · exact absurd hj hjk
     · have hk : kindS S j = 0 := by
        by_cases hk : kindS S j = 0
        · exact hk
        · exact absurd (q_add_new S j c hjk hk) hq
       rw [hw j hk] at hl
       cases hl
 · rw [ls_add] at hl
   obtain ⟨j, hj, hl⟩ := h.met l hl
   exact ⟨j, (ks_add S i c j).2 (.inl hj), hl⟩
theorem CInv.link {S : Sto} {f : Id → List Lnk} {rs pend : List Id} {c : Cst} (h : CInv S f rs pend c) (hw : Quiet S f) (x : Id) (hx : x ∈ c.ks) (l : Lnk) (hl : l ∈ f x) : CInv S f rs pend (linkC S l c) := by
 have h1 : CInv S f rs pend (noteC l c) := ⟨h.reach, h.nd, h.qk, fun j hj hq hp k hk => by
  obtain ⟨a, b⟩ := h.full j hj hq hp k hk
  exact ⟨a, by unfold noteC; simp [b]⟩, fun k hk => by
  unfold noteC at hk
  simp only [List.mem_append, List.mem_singleton] at hk
  rcases hk with hk | rfl
  · exact h.met k hk
  · exact ⟨x, hx, hl⟩⟩
 exact h1.add hw l.1 (.step (h.reach x hx) (List.mem_map.2 ⟨l, hl, rfl⟩))
theorem link_ks (S : Sto) (l : Lnk) (c : Cst) (j : Id) : j ∈ (linkC S l c).ks ↔ j ∈ c.ks ∨ j = l.1 := ks_add S l.1 (noteC l c) j
theorem link_ls (S : Sto) (l : Lnk) (c : Cst) : (linkC S l c).ls = c.ls ++ [l] := ls_add S l.1 (noteC l c)
def procC (S : Sto) (ls : List Lnk) (c : Cst) : Cst := ls.foldl (fun c l => linkC S l c) c
theorem procC_nil (S : Sto) (c : Cst) : procC S [] c = c := rfl
theorem procC_cons (S : Sto) (l : Lnk) (ls : List Lnk) (c : Cst) : procC S (l :: ls) c = procC S ls (linkC S l c) := rfl
theorem procC_snoc (S : Sto) (l : Lnk) (ls : List Lnk) (c : Cst) : procC S (ls ++ [l]) c = linkC S l (procC S ls c) := by
 unfold procC
 rw [List.foldl_append]
 rfl
theorem proc_ls (S : Sto) : ∀ (ls : List Lnk) (c : Cst), (procC S ls c).ls = c.ls ++ ls
 | [], c => by simp [procC_nil]
 | l :: r, c => by rw [procC_cons, proc_ls S r, link_ls]; simp
theorem proc_ks (S : Sto) : ∀ (ls : List Lnk) (c : Cst) (j : Id), j ∈ c.ks → j ∈ (procC S ls c).ks
 | [], c, j, h => h
 | l :: r, c, j, h => by rw [procC_cons]; exact proc_ks S r _ j ((link_ks S l c j).2 (.inl h))
theorem proc_mu (S : Sto) : ∀ (ls : List Lnk) (c : Cst), muC S (procC S ls c) ≤ muC S c
 | [], c => Nat.le_refl _
 | l :: r, c => by rw [procC_cons]; exact Nat.le_trans (proc_mu S r _) (mu_link S l c)
theorem proc_names (S : Sto) : ∀ (ls : List Lnk) (c : Cst) (l : Lnk), l ∈ ls → l.1 ∈ (procC S ls c).ks
 | k :: r, c, l, h => by
   rw [procC_cons]
   rcases List.mem_cons.1 h with rfl | h
   · exact proc_ks S r _ _ ((link_ks S l c _).2 (.inr rfl))
   · exact proc_names S r _ l h
theorem CInv.proc {S : Sto} {f : Id → List Lnk} {rs pend : List Id} (hw : Quiet S f) (x : Id) : ∀ (ls : List Lnk) (c : Cst), CInv S f rs pend c → x ∈ c.ks → (∀ l ∈ ls, l ∈ f x) → CInv S f rs pend (procC S ls c)
 | [], c, h, _, _ => h
 | l :: r, c, h, hx, hl => by
   rw [procC_cons]
   exact CInv.proc hw x r _ (h.link hw x hx l (hl l (by simp))) ((link_ks S l c x).2 (.inl hx)) (fun k hk => hl k (List.mem_cons_of_mem _ hk))
theorem CInv.round {S : Sto} {f : Id → List Lnk} {rs : List Id} {c : Cst} (h : CInv S f rs [] c) (hw : Quiet S f) (x : Id) (r : List Id) (hq : c.q = x :: r) :
 CInv S f rs [] (procC S (f x) (popC c)) ∧ muC S (procC S (f x) (popC c)) < muC S c := by
 have hx : x ∈ c.ks := h.qk x (by rw [hq]; simp)
 have h1 : CInv S f rs [x] (popC c) := by
  refine ⟨h.reach, h.nd, fun i hi => ?_, fun i hi hiq hip l hl => ?_, h.met⟩
  · unfold popC at hi
    simp only [hq] at hi
    rw [mem_popL] at hi
    exact h.qk i (by rw [hq]; exact List.mem_cons_of_mem _ hi)
  · refine h.full i hi (fun hm => ?_) (by simp) l hl
    rw [hq] at hm
    rcases List.mem_cons.1 hm with rfl | hm
    · exact hip (by simp)
    · apply hiq
      unfold popC
      simp only [hq]
      rw [mem_popL]
      exact hm
 have h2 := CInv.proc hw x (f x) (popC c) h1 hx (fun _ h => h)
 refine ⟨⟨h2.reach, h2.nd, h2.qk, fun i hi hiq _ l hl => ?_, h2.met⟩, ?_⟩
 · by_cases e : i = x
   · subst e
     refine ⟨proc_names S _ _ l hl, ?_⟩
     rw [proc_ls]
     exact List.mem_append.2 (.inr hl)
   · exact h2.full i hi hiq (by simpa using e) l hl
 · refine Nat.lt_of_le_of_lt (proc_mu S (f x) (popC c)) ?_
   unfold muC popC
   simp only [hq]
   rw [popL_length, List.length_cons]
   omega
structure CEnd (S : Sto) (f : Id → List Lnk) (rs : List Id) (c : Cst) : Prop where
 nd : c.ks.Nodup
 ks : ∀ i, i ∈ c.ks ↔ i ∈ setP f rs
 ls : ∀ l, l ∈ c.ls ↔ ∃ i ∈ setP f rs, l ∈ f i
theorem CInv.fin {S : Sto} {f : Id → List Lnk} {rs : List Id} {c : Cst} (h : CInv S f rs [] c) (hq : c.q = []) (hr : ∀ i ∈ rs, i ∈ c.ks) : CEnd S f rs c := by
 have h1 : ∀ i, i ∈ c.ks ↔ Rch (nxt_ f) rs i := fun i => ⟨h.reach i, fun hi => hi.sub (S := fun i => i ∈ c.ks) hr (fun i hi j hj => by
  obtain ⟨l, hl, rfl⟩ := List.mem_map.1 hj
  exact (h.full i hi (by rw [hq]; simp) (by simp) l hl).1)⟩
 have h2 : setP f rs = sortI c.ks := comeP_of h1
 have h3 : ∀ i, i ∈ c.ks ↔ i ∈ setP f rs := fun i => by rw [h2, mem_sortI]
 refine ⟨h.nd, h3, fun l => ⟨fun hl => ?_, fun ⟨i, hi, hl⟩ => ?_⟩⟩
 · obtain ⟨i, hi, hl⟩ := h.met l hl
   exact ⟨i, (h3 i).1 hi, hl⟩
 · exact (h.full i ((h3 i).2 hi) (by rw [hq]; simp) (by simp) l hl).2
theorem sortI_length {l : List Id} (h : l.Nodup) : (sortI l).length = l.length := by
 have hp : (sortI l).Perm l := by
  refine (List.perm_ext_iff_of_nodup ?_ h).2 (fun i => mem_sortI l i)
  have := sortI_rise l
  unfold Rise at this
  refine List.Pairwise.imp (fun {a b} hab e => ?_) this
  subst e
  rw [Id.lt_irrefl] at hab
  cases hab
 exact hp.length_eq
theorem CEnd.size {S : Sto} {f : Id → List Lnk} {rs : List Id} {c : Cst} (h : CEnd S f rs c) : setP f rs = sortI c.ks ∧ (setP f rs).length = c.ks.length := by
 have e : setP f rs = sortI c.ks := (sortI_eq (setP_rise f rs) (fun i => (h.ks i).symm)).symm
 exact ⟨e, by rw [e, sortI_length h.nd]⟩
def Fits (S : Sto) (W R : Nat) (c : Cst) : Prop := c.ls.length + W * muC S c ≤ W * (2 * S.length) ∧ c.ks.length ≤ R + c.ls.length ∧ c.q.length ≤ muC S c
theorem add_len (S : Sto) (i : Id) (c : Cst) : (addC S i c).ks.length ≤ c.ks.length + 1 := by
 unfold addC
 split
 · omega
 · simp
theorem q_le_mu (S : Sto) (c : Cst) : c.q.length ≤ muC S c := by unfold muC; omega
theorem proc_len (S : Sto) : ∀ (ls : List Lnk) (c : Cst), (procC S ls c).ks.length ≤ c.ks.length + ls.length
 | [], c => by simp [procC_nil]
 | l :: r, c => by
   rw [procC_cons]
   have h1 := proc_len S r (linkC S l c)
   have h2 := add_len S l.1 (noteC l c)
   have h3 : (noteC l c).ks = c.ks := rfl
   rw [h3] at h2
   have h4 : (linkC S l c).ks.length = (addC S l.1 (noteC l c)).ks.length := rfl
   simp
   omega
theorem Fits.round {S : Sto} {W R : Nat} {c : Cst} (h : Fits S W R c) {f : Id → List Lnk} {rs : List Id} (hi : CInv S f rs [] c) (hw : Quiet S f) (x : Id) (r : List Id) (hq : c.q = x :: r) (hf : (f x).length ≤ W) :
 Fits S W R (procC S (f x) (popC c)) := by
 have h1 := (hi.round hw x r hq).2
 have h2 := proc_ls S (f x) (popC c)
 have h3 : (procC S (f x) (popC c)).ls.length = c.ls.length + (f x).length := by rw [h2]; simp [popC]
 have h4 := proc_len S (f x) (popC c)
 have h5 : (popC c).ks.length = c.ks.length := rfl
 refine ⟨?_, ?_, q_le_mu S _⟩
 · have h6 : W * muC S (procC S (f x) (popC c)) + W ≤ W * muC S c := by
    have : muC S (procC S (f x) (popC c)) + 1 ≤ muC S c := h1
    calc W * muC S (procC S (f x) (popC c)) + W = W * (muC S (procC S (f x) (popC c)) + 1) := by rw [Nat.mul_add, Nat.mul_one]
     _ ≤ W * muC S c := Nat.mul_le_mul_left _ this
   have := h.1
   omega
 · have := h.2.1
   omega
def rootsC (S : Sto) (rs : List Id) (c : Cst) : Cst := rs.foldl (fun c i => addC S i c) c
theorem rootsC_cons (S : Sto) (i : Id) (rs : List Id) (c : Cst) : rootsC S (i :: rs) c = rootsC S rs (addC S i c) := rfl
theorem rootsC_snoc (S : Sto) (i : Id) (rs : List Id) (c : Cst) : rootsC S (rs ++ [i]) c = addC S i (rootsC S rs c) := by
 unfold rootsC
 rw [List.foldl_append]
 rfl
theorem roots_mu (S : Sto) : ∀ (rs : List Id) (c : Cst), muC S (rootsC S rs c) ≤ muC S c
 | [], c => Nat.le_refl _
 | i :: r, c => by rw [rootsC_cons]; exact Nat.le_trans (roots_mu S r _) (mu_add S i c)
theorem roots_ls (S : Sto) : ∀ (rs : List Id) (c : Cst), (rootsC S rs c).ls = c.ls
 | [], c => rfl
 | i :: r, c => by rw [rootsC_cons, roots_ls S r, ls_add]
theorem roots_keep (S : Sto) : ∀ (rs : List Id) (c : Cst) (j : Id), j ∈ c.ks → j ∈ (rootsC S rs c).ks
 | [], c, j, h => h
 | i :: r, c, j, h => by rw [rootsC_cons]; exact roots_keep S r _ j ((ks_add S i c j).2 (.inl h))
theorem roots_in (S : Sto) : ∀ (rs : List Id) (c : Cst) (j : Id), j ∈ rs → j ∈ (rootsC S rs c).ks
 | i :: r, c, j, h => by
   rw [rootsC_cons]
   rcases List.mem_cons.1 h with rfl | h
   · exact roots_keep S r _ _ ((ks_add S j c _).2 (.inr rfl))
   · exact roots_in S r _ j h
theorem roots_len (S : Sto) : ∀ (rs : List Id) (c : Cst), (rootsC S rs c).ks.length ≤ c.ks.length + rs.length
 | [], c => by simp [rootsC]
 | i :: r, c => by
   rw [rootsC_cons]
   have h1 := roots_len S r (addC S i c)
   have h2 := add_len S i c
   simp
   omega
theorem roots_inv {S : Sto} {f : Id → List Lnk} {rs : List Id} (hw : Quiet S f) : ∀ (l : List Id) (c : Cst), (∀ i ∈ l, i ∈ rs) → CInv S f rs [] c → CInv S f rs [] (rootsC S l c)
 | [], c, _, h => h
 | i :: r, c, hl, h => by
   rw [rootsC_cons]
   exact roots_inv hw r _ (fun j hj => hl j (List.mem_cons_of_mem _ hj)) (h.add hw i (.root (hl i (by simp))))
theorem roots_fits (S : Sto) (W : Nat) (rs : List Id) : Fits S W rs.length (rootsC S rs ⟨[], [], []⟩) := by
 have h1 := roots_mu S rs ⟨[], [], []⟩
 have h2 := roots_ls S rs ⟨[], [], []⟩
 have h3 := roots_len S rs ⟨[], [], []⟩
 refine ⟨?_, ?_, q_le_mu S _⟩
 · rw [h2]
   have h4 : muC S ⟨[], [], []⟩ ≤ 2 * S.length := by
    unfold muC
    have := missing_le S []
    simp
    omega
   simp
   exact Nat.mul_le_mul_left _ (Nat.le_trans h1 h4)
 · rw [h2]
   simpa using h3
def obB (i : Nat) : Ob := .blob [UInt8.ofNat i, UInt8.ofNat (i / 256)]
def obT (b : Id) : Ob := .tree [⟨1, [102], b⟩]
def obC (t : Id) (ps : List Id) (time : Nat) : Ob := .commit ⟨t, ps, [], time, []⟩
def obG (x : Id) (k : Nat) : Ob := .tag ⟨x, k, [116], [], 0, []⟩
theorem parse_lay {o : Ob} (h : okOb o = true) (hl : (layOb o).length ≤ 65536) : parseP (layOb o) = some o := by
 unfold parseP
 rw [if_neg (by omega), rOb_lay o (ok_fit h)]
 simp [h]
theorem varP_small (n : Nat) (h : n < 128) : varP n = [UInt8.ofNat n] := by
 unfold varP vr
 rw [if_pos h]
 simp [varPre]
theorem layB_nil : layB [] = [0] := by unfold layB; rw [List.length_nil, varP_small 0 (by omega)]; rfl
theorem layB_one (c : UInt8) : layB [c] = [1, c] := by unfold layB; rw [List.length_singleton, varP_small 1 (by omega)]; rfl
theorem lay_T (b : Id) : layOb (obT b) = [2, 1, 1, 1, 102] ++ b.1 := by
 simp only [layOb, obT, List.length_singleton, List.flatMap_cons, List.flatMap_nil, layEnt, layB_one, List.append_nil]
 rw [varP_small 1 (by omega)]
 rfl
theorem lay_C (t : Id) (ps : List Id) (time : Nat) (hp : ps.length < 128) : layOb (obC t ps time) = 3 :: (t.1 ++ (UInt8.ofNat ps.length :: (idsB ps ++ (0 :: (be8 time ++ [0]))))) := by
 simp only [layOb, obC, layB_nil]
 rw [varP_small _ hp]
 rfl
theorem lay_G (x : Id) (k : Nat) : layOb (obG x k) = 4 :: (x.1 ++ (UInt8.ofNat k :: 1 :: 116 :: 0 :: (be8 0 ++ [0]))) := by
 simp only [layOb, obG, layB_nil, layB_one]
 rfl
theorem ok_B (i : Nat) : okOb (obB i) = true := rfl
theorem ok_T (b : Id) : okOb (obT b) = true := by
 have h1 : nameP [102] = true := by decide +kernel
 simp [okOb, obT, risingP, h1]
theorem ok_C (t : Id) (ps : List Id) (time : Nat) (hp : ps = [] ∨ ∃ p, ps = [p]) (ht : time ≤ 1099511627776) : okOb (obC t ps time) = true := by
 have h1 : toldP [] time [] = true := by
  unfold toldP
  simp [ht, lineP, lineGo]
 rcases hp with rfl | ⟨p, rfl⟩ <;> simp [okOb, obC, h1]
theorem ok_G (x : Id) (k : Nat) (h1 : 1 ≤ k) (h4 : k ≤ 4) : okOb (obG x k) = true := by
 have h2 : nameP [116] = true := by decide +kernel
 have h3 : toldP [] 0 [] = true := by decide +kernel
 simp [okOb, obG, h1, h4, h2, h3]
theorem len_B (i : Nat) : (layOb (obB i)).length = 3 := rfl
theorem len_T (b : Id) : (layOb (obT b)).length = 37 := by rw [lay_T]; simp [b.2]
theorem idsB_length : ∀ (l : List Id), (idsB l).length = 32 * l.length
 | [] => rfl
 | i :: r => by rw [idsB, List.length_append, i.2, idsB_length r, List.length_cons]; omega
theorem len_C (t : Id) (ps : List Id) (time : Nat) (hp : ps.length < 128) : (layOb (obC t ps time)).length = 44 + 32 * ps.length := by
 rw [lay_C t ps time hp]
 simp [t.2, idsB_length, be8]
 omega
theorem len_G (x : Id) (k : Nat) : (layOb (obG x k)).length = 46 := by rw [lay_G]; simp [x.2, be8]
theorem par_B (i : Nat) : parseP (layOb (obB i)) = some (obB i) := parse_lay (ok_B i) (by rw [len_B]; omega)
theorem par_T (b : Id) : parseP (layOb (obT b)) = some (obT b) := parse_lay (ok_T b) (by rw [len_T]; omega)
theorem par_C (t : Id) (ps : List Id) (time : Nat) (hp : ps = [] ∨ ∃ p, ps = [p]) (ht : time ≤ 1099511627776) : parseP (layOb (obC t ps time)) = some (obC t ps time) :=
 parse_lay (ok_C t ps time hp ht) (by rw [len_C]; all_goals (rcases hp with rfl | ⟨p, rfl⟩ <;> simp))
theorem par_G (x : Id) (k : Nat) (h1 : 1 ≤ k) (h4 : k ≤ 4) : parseP (layOb (obG x k)) = some (obG x k) := parse_lay (ok_G x k h1 h4) (by rw [len_G]; omega)
def Bq (i : Nat) : Bs := layOb (obB i)
def Tq (i : Nat) : Bs := layOb (obT (shaI (Bq i)))
def Cq (tm : Nat → Nat) : Nat → Bs
 | 0 => layOb (obC (shaI (Tq 0)) [] (tm 0))
 | i + 1 => layOb (obC (shaI (Tq (i + 1))) [shaI (Cq tm i)] (tm (i + 1)))
def Gq (tm : Nat → Nat) (n : Nat) : Nat → Bs
 | 0 => layOb (obG (shaI (Cq tm (n - 1))) 3)
 | j + 1 => layOb (obG (shaI (Gq tm n j)) 4)
def parQ (tm : Nat → Nat) (i : Nat) : List Id := if i = 0 then [] else [shaI (Cq tm (i - 1))]
theorem Cq_eq (tm : Nat → Nat) (i : Nat) : Cq tm i = layOb (obC (shaI (Tq i)) (parQ tm i) (tm i)) := by
 cases i with
 | zero => rfl
 | succ i => simp [Cq, parQ]
theorem parQ_or (tm : Nat → Nat) (i : Nat) : parQ tm i = [] ∨ ∃ p, parQ tm i = [p] := by
 unfold parQ
 split
 · exact .inl rfl
 · exact .inr ⟨_, rfl⟩
def tgtQ (tm : Nat → Nat) (n j : Nat) : Id × Nat := if j = 0 then (shaI (Cq tm (n - 1)), 3) else (shaI (Gq tm n (j - 1)), 4)
theorem Gq_eq (tm : Nat → Nat) (n j : Nat) : Gq tm n j = layOb (obG (tgtQ tm n j).1 (tgtQ tm n j).2) := by
 cases j with
 | zero => rfl
 | succ j => simp [Gq, tgtQ]
theorem tgtQ_kind (tm : Nat → Nat) (n j : Nat) : 1 ≤ (tgtQ tm n j).2 ∧ (tgtQ tm n j).2 ≤ 4 := by
 unfold tgtQ
 split <;> simp
def Tms (tm : Nat → Nat) : Prop := ∀ i, tm i ≤ 1099511627776
theorem parB (i : Nat) : parseP (Bq i) = some (obB i) := par_B i
theorem parT (i : Nat) : parseP (Tq i) = some (obT (shaI (Bq i))) := par_T _
theorem parC {tm : Nat → Nat} (ht : Tms tm) (i : Nat) : parseP (Cq tm i) = some (obC (shaI (Tq i)) (parQ tm i) (tm i)) := by
 rw [Cq_eq]; exact par_C _ _ _ (parQ_or tm i) (ht i)
theorem parG (tm : Nat → Nat) (n j : Nat) : parseP (Gq tm n j) = some (obG (tgtQ tm n j).1 (tgtQ tm n j).2) := by
 rw [Gq_eq]; exact par_G _ _ (tgtQ_kind tm n j).1 (tgtQ_kind tm n j).2
theorem Bq_inj {i j : Nat} (hi : i < 65536) (hj : j < 65536) (h : Bq i = Bq j) : i = j := by
 have h1 : obB i = obB j := Option.some.inj (by rw [← parB i, h, parB j])
 unfold obB at h1
 injection h1 with h1
 injection h1 with h2 h3
 injection h3 with h3
 have e2 := congrArg UInt8.toNat h2
 have e3 := congrArg UInt8.toNat h3
 rw [UInt8.toNat_ofNat', UInt8.toNat_ofNat'] at e2 e3
 omega
theorem Tq_inj {i j : Nat} (h : Tq i = Tq j) : shaI (Bq i) = shaI (Bq j) := by
 have h1 : obT (shaI (Bq i)) = obT (shaI (Bq j)) := Option.some.inj (by rw [← parT i, h, parT j])
 unfold obT at h1
 injection h1 with h1
 injection h1 with h1 _
 injection h1 with _ _ h1
theorem Cq_inj {tm : Nat → Nat} (ht : Tms tm) {i j : Nat} (h : Cq tm i = Cq tm j) : shaI (Tq i) = shaI (Tq j) := by
 have h1 := Option.some.inj (by rw [← parC ht i, h, parC ht j] : some (obC (shaI (Tq i)) (parQ tm i) (tm i)) = some (obC (shaI (Tq j)) (parQ tm j) (tm j)))
 unfold obC at h1
 injection h1 with h1
 injection h1
theorem Gq_inj {tm : Nat → Nat} {n i j : Nat} (h : Gq tm n i = Gq tm n j) : tgtQ tm n i = tgtQ tm n j := by
 have h1 := Option.some.inj (by rw [← parG tm n i, h, parG tm n j] : some (obG (tgtQ tm n i).1 (tgtQ tm n i).2) = some (obG (tgtQ tm n j).1 (tgtQ tm n j).2))
 unfold obG at h1
 injection h1 with h1
 injection h1 with h1 h2
 exact Prod.ext h1 h2
theorem kinds_ne {a b : Bs} {o p : Ob} (ha : parseP a = some o) (hb : parseP b = some p) (h : kindOb o ≠ kindOb p) : a ≠ b := by
 rintro rfl
 rw [ha] at hb
 exact h (congrArg kindOb (Option.some.inj hb))
structure Line (S : Sto) (tm : Nat → Nat) (i : Nat) : Prop where
 ok : StoOk S
 gB : ∀ k, k < i → getS S (shaI (Bq k)) = some (Bq k)
 gT : ∀ k, k < i → getS S (shaI (Tq k)) = some (Tq k)
 gC : ∀ k, k < i → getS S (shaI (Cq tm k)) = some (Cq tm k)
 all : ∀ x ∈ S, ∃ k, k < i ∧ (x.2 = Bq k ∨ x.2 = Tq k ∨ x.2 = Cq tm k)
 len : S.length = 3 * i
theorem Line.start (tm : Nat → Nat) : Line [] tm 0 := ⟨.nil, by omega, by omega, by omega, by simp, rfl⟩
theorem ins_ok {S : Sto} (h : StoOk S) {b : Bs} {o : Ob} (hp : parseP b = some o) (hg : getS S (shaI b) = none) (hl : S.length < 8192) : StoOk (insS (shaI b) b S) := by
 have h1 := h.put b
 unfold putS at h1
 rw [if_neg (by rw [hp]; simp), hg] at h1
 simp only at h1
 rw [if_neg (by omega)] at h1
 exact h1
theorem ins_same {S : Sto} (h : StoOk S) {i : Id} {b : Bs} (hg : getS S i = none) : getS (insS i b S) i = some b := by
 rw [getS_insS h.rise (getS_none.1 hg), if_pos rfl]
theorem ins_keep {S : Sto} (h : StoOk S) {i j : Id} {b c : Bs} (hg : getS S i = none) (hj : getS S j = some c) : getS (insS i b S) j = some c := by
 rw [getS_insS h.rise (getS_none.1 hg), if_neg (by rintro rfl; rw [hg] at hj; cases hj)]
 exact hj
section
variable {S : Sto} {tm : Nat → Nat} {i : Nat} (h : Line S tm i) (ht : Tms tm)
include h ht
theorem Line.newB (hi : i < 65536) {old : Bs} (hg : getS S (shaI (Bq i)) = some old) : old ≠ Bq i := by
 rintro rfl
 obtain ⟨k, hk, e | e | e⟩ := h.all _ (getS_mem hg)
 · have := Bq_inj hi (by omega) e
   omega
 · exact kinds_ne (parB i) (parT k) (by simp [kindOb, obB, obT]) e
 · exact kinds_ne (parB i) (parC ht k) (by simp [kindOb, obB, obC]) e
theorem Line.newT (hB : getS S (shaI (Bq i)) = none) {old : Bs} (hg : getS (insS (shaI (Bq i)) (Bq i) S) (shaI (Tq i)) = some old) : old ≠ Tq i := by
 rintro rfl
 rcases (mem_insS _ _ _ _).1 (getS_mem hg) with e | hm
 · exact kinds_ne (parT i) (parB i) (by simp [kindOb, obB, obT]) (congrArg Prod.snd e)
 · obtain ⟨k, hk, e | e | e⟩ := h.all _ hm
   · exact kinds_ne (parT i) (parB k) (by simp [kindOb, obB, obT]) e
   · have := Tq_inj e
     rw [this, h.gB k hk] at hB
     cases hB
   · exact kinds_ne (parT i) (parC ht k) (by simp [kindOb, obT, obC]) e
theorem Line.newC (hB : getS S (shaI (Bq i)) = none) (hT : getS (insS (shaI (Bq i)) (Bq i) S) (shaI (Tq i)) = none) {old : Bs}
 (hg : getS (insS (shaI (Tq i)) (Tq i) (insS (shaI (Bq i)) (Bq i) S)) (shaI (Cq tm i)) = some old) : old ≠ Cq tm i := by
 rintro rfl
 rcases (mem_insS _ _ _ _).1 (getS_mem hg) with e | hm
 · exact kinds_ne (parC ht i) (parT i) (by simp [kindOb, obC, obT]) (congrArg Prod.snd e)
 · rcases (mem_insS _ _ _ _).1 hm with e | hm
   · exact kinds_ne (parC ht i) (parB i) (by simp [kindOb, obC, obB]) (congrArg Prod.snd e)
   · obtain ⟨k, hk, e | e | e⟩ := h.all _ hm
     · exact kinds_ne (parC ht i) (parB k) (by simp [kindOb, obB, obC]) e
     · exact kinds_ne (parC ht i) (parT k) (by simp [kindOb, obT, obC]) e
     · have := Cq_inj ht e
       have h2 := ins_keep h.ok hB (h.gT k hk) (b := Bq i)
       rw [this, h2] at hT
       cases hT
theorem Line.round (hi : i < 2000) (hB : getS S (shaI (Bq i)) = none) (hT : getS (insS (shaI (Bq i)) (Bq i) S) (shaI (Tq i)) = none)
 (hC : getS (insS (shaI (Tq i)) (Tq i) (insS (shaI (Bq i)) (Bq i) S)) (shaI (Cq tm i)) = none) :
 Line (insS (shaI (Cq tm i)) (Cq tm i) (insS (shaI (Tq i)) (Tq i) (insS (shaI (Bq i)) (Bq i) S))) tm (i + 1) := by
 have hl := h.len
 have k1 := ins_ok h.ok (parB i) hB (by omega)
 have k2 := ins_ok k1 (parT i) hT (by rw [insS_length]; omega)
 have k3 := ins_ok k2 (parC ht i) hC (by rw [insS_length, insS_length]; omega)
 refine ⟨k3, fun k hk => ?_, fun k hk => ?_, fun k hk => ?_, fun x hx => ?_, by rw [insS_length, insS_length, insS_length]; omega⟩
 · refine ins_keep k2 hC (ins_keep k1 hT ?_)
   by_cases e : k = i
   · subst e; exact ins_same h.ok hB
   · exact ins_keep h.ok hB (h.gB k (by omega))
 · refine ins_keep k2 hC ?_
   by_cases e : k = i
   · subst e; exact ins_same k1 hT
   · exact ins_keep k1 hT (ins_keep h.ok hB (h.gT k (by omega)))
 · by_cases e : k = i
   · subst e; exact ins_same k2 hC
   · exact ins_keep k2 hC (ins_keep k1 hT (ins_keep h.ok hB (h.gC k (by omega))))
 · rcases (mem_insS _ _ _ _).1 hx with rfl | hx
   · exact ⟨i, by omega, .inr (.inr rfl)⟩
   · rcases (mem_insS _ _ _ _).1 hx with rfl | hx
     · exact ⟨i, by omega, .inr (.inl rfl)⟩
     · rcases (mem_insS _ _ _ _).1 hx with rfl | hx
       · exact ⟨i, by omega, .inl rfl⟩
       · obtain ⟨k, hk, e⟩ := h.all x hx
         exact ⟨k, by omega, e⟩
end
structure Tagd (S : Sto) (tm : Nat → Nat) (n m : Nat) : Prop where
 ok : StoOk S
 gB : ∀ k, k < n → getS S (shaI (Bq k)) = some (Bq k)
 gT : ∀ k, k < n → getS S (shaI (Tq k)) = some (Tq k)
 gC : ∀ k, k < n → getS S (shaI (Cq tm k)) = some (Cq tm k)
 gG : ∀ j, j < m → getS S (shaI (Gq tm n j)) = some (Gq tm n j)
 all : ∀ x ∈ S, (∃ k, k < n ∧ (x.2 = Bq k ∨ x.2 = Tq k ∨ x.2 = Cq tm k)) ∨ ∃ j, j < m ∧ x.2 = Gq tm n j
 len : S.length = 3 * n + m
 apart : ∀ i j, i < m → j < m → shaI (Gq tm n i) = shaI (Gq tm n j) → i = j
theorem Tagd.start {S : Sto} {tm : Nat → Nat} {n : Nat} (h : Line S tm n) : Tagd S tm n 0 :=
 ⟨h.ok, h.gB, h.gT, h.gC, by omega, fun x hx => .inl (h.all x hx), by rw [h.len]; omega, by omega⟩
theorem Tagd.newG {S : Sto} {tm : Nat → Nat} {n m : Nat} (h : Tagd S tm n m) (ht : Tms tm) {old : Bs} (hg : getS S (shaI (Gq tm n m)) = some old) : old ≠ Gq tm n m := by
 rintro rfl
 rcases h.all _ (getS_mem hg) with ⟨k, hk, e | e | e⟩ | ⟨j, hj, e⟩
 · exact kinds_ne (parG tm n m) (parB k) (by simp [kindOb, obB, obG]) e
 · exact kinds_ne (parG tm n m) (parT k) (by simp [kindOb, obT, obG]) e
 · exact kinds_ne (parG tm n m) (parC ht k) (by simp [kindOb, obC, obG]) e
 · have h1 := Gq_inj e
   unfold tgtQ at h1
   rw [if_neg (by omega : ¬ m = 0)] at h1
   by_cases h0 : j = 0
   · rw [if_pos h0] at h1
     have := congrArg Prod.snd h1
     simp at this
   · rw [if_neg h0] at h1
     have := h.apart (m - 1) (j - 1) (by omega) (by omega) (congrArg Prod.fst h1)
     omega
theorem Tagd.round {S : Sto} {tm : Nat → Nat} {n m : Nat} (h : Tagd S tm n m) (_ht : Tms tm) (hl : 3 * n + m < 8192) (hG : getS S (shaI (Gq tm n m)) = none) :
 Tagd (insS (shaI (Gq tm n m)) (Gq tm n m) S) tm n (m + 1) := by
 have k1 := ins_ok h.ok (parG tm n m) hG (by rw [h.len]; exact hl)
 refine ⟨k1, fun k hk => ins_keep h.ok hG (h.gB k hk), fun k hk => ins_keep h.ok hG (h.gT k hk), fun k hk => ins_keep h.ok hG (h.gC k hk), fun j hj => ?_, fun x hx => ?_, by rw [insS_length, h.len]; omega, fun i j hi hj e => ?_⟩
 · by_cases e : j = m
   · subst e; exact ins_same h.ok hG
   · exact ins_keep h.ok hG (h.gG j (by omega))
 · rcases (mem_insS _ _ _ _).1 hx with rfl | hx
   · exact .inr ⟨m, by omega, rfl⟩
   · rcases h.all x hx with h1 | ⟨j, hj, e⟩
     · exact .inl h1
     · exact .inr ⟨j, by omega, e⟩
 · have hne : ∀ k, k < m → shaI (Gq tm n m) ≠ shaI (Gq tm n k) := fun k hk e => by
    rw [e, h.gG k hk] at hG
    cases hG
   by_cases h1 : i = m
   · by_cases h2 : j = m
     · omega
     · exact absurd (h1 ▸ e) (hne j (by omega))
   · by_cases h2 : j = m
     · exact absurd (h2 ▸ e).symm (hne i (by omega))
     · exact h.apart i j (by omega) (by omega) e
theorem Tagd.deep {S : Sto} {tm : Nat → Nat} {n m : Nat} (h : Tagd S tm n m) (ht : Tms tm) (hn : 0 < n) (hn2 : n ≤ 2000) : Deep S n m Bq Tq (Cq tm) (Gq tm n) := by
 refine ⟨h.ok, hn, h.gB, h.gT, h.gC, h.gG, h.all, h.len, fun i _ => ?_, fun i _ => ?_, fun i _ => ?_, fun j _ => ?_, fun i j hi hj e => ?_⟩
 · unfold kindB childB
   rw [parB]
   exact ⟨rfl, rfl⟩
 · unfold kindB childB
   rw [parT]
   exact ⟨rfl, rfl⟩
 · unfold kindB childB
   rw [parC ht]
   refine ⟨rfl, ?_⟩
   simp only [childOb, obC, parQ]
   split <;> rfl
 · unfold kindB childB
   rw [parG]
   refine ⟨rfl, ?_⟩
   simp only [childOb, obG, tgtQ]
 · have h1 := h.gC i hi
   rw [e, h.gC j hj] at h1
   have h2 := Cq_inj ht (Option.some.inj h1).symm
   have h3 := h.gT i hi
   rw [h2, h.gT j hj] at h3
   have h4 := Tq_inj (Option.some.inj h3).symm
   have h5 := h.gB i hi
   rw [h4, h.gB j hj] at h5
   exact Bq_inj (by omega) (by omega) (Option.some.inj h5).symm
end Go.Proofs.YtnjhjbmngoeobaaGreatDoor
namespace Go.Proofs.YtnjhjbmngoeobaaGreatDoor
open Go.RowKit Go.Maps
set_option maxRecDepth 100000
def Kn (b : Bs) (o : Ob) : Prop := parseP b = some o ∧ Shape o ∧ b ≠ [] ∧ b.length ≤ 65536 ∧
 ∀ (A : Option Addr) (c : Nat) (w : World), Sl w A b → ErrTab w → Calls Tryz.prog 40 #[.slice A b.length c] w (ParsePost w o)
theorem kn_B (i : Nat) : Kn (Bq i) (obB i) :=
 ⟨parB i, trivial, by simp [Bq, obB, layOb], by unfold Bq; rw [len_B]; omega, fun A c w h he => parse_blob _ c A [UInt8.ofNat i, UInt8.ofNat (i / 256)] w h rfl (by show 3 ≤ 65536; omega) he⟩
theorem kn_obT (b : Id) : Kn (layOb (obT b)) (obT b) := by
 have e : layOb (obT b) = 2 :: 1 :: layEnt ⟨1, [102], b⟩ := by rw [lay_T]; simp only [layEnt, layB_one]; rfl
 refine ⟨par_T b, .inr ⟨_, rfl, (by decide : (1 : Nat) ≠ 4)⟩, by rw [e]; simp, by rw [len_T]; omega, fun A c w h he => ?_⟩
 have hl := len_T b
 rw [e] at h hl ⊢
 exact parse_tree1 _ c A ⟨1, [102], b⟩ 102 (by show 1 ≤ 1; omega) (by show 1 ≤ 4; omega) rfl (by decide) (by decide) (by decide) (by decide) w h rfl (by omega) he
theorem kn_obC (t : Id) (ps : List Id) (time : Nat) (hp : ps = [] ∨ ∃ p, ps = [p]) (ht : time ≤ 1099511627776) : Kn (layOb (obC t ps time)) (obC t ps time) := by
 have hl := len_C t ps time (by rcases hp with rfl | ⟨p, rfl⟩ <;> simp)
 refine ⟨par_C t ps time hp ht, hp, by unfold obC layOb; simp, by rw [hl]; rcases hp with rfl | ⟨p, rfl⟩ <;> simp, fun A c w h he => ?_⟩
 rcases hp with rfl | ⟨p, rfl⟩
 · have e : layOb (obC t [] time) = 3 :: (t.1 ++ (0 :: (layB [] ++ (be8 time ++ (layB [] ++ []))))) := by rw [lay_C _ _ _ (by simp)]; simp [layB_nil, idsB]
   rw [e] at h hl ⊢
   exact parse_com0 _ c A t [] [] time (.inl rfl) ht (by simp) w h rfl (by rw [hl]; simp) he
 · have e : layOb (obC t [p] time) = 3 :: (t.1 ++ (1 :: (p.1 ++ (layB [] ++ (be8 time ++ (layB [] ++ [])))))) := by rw [lay_C _ _ _ (by simp)]; simp [layB_nil, idsB]
   rw [e] at h hl ⊢
   exact parse_com1 _ c A p t [] [] time (.inl rfl) ht (by simp) w h rfl (by rw [hl]; simp) he
theorem kn_obG (x : Id) (k : Nat) (h1 : 1 ≤ k) (h4 : k ≤ 4) : Kn (layOb (obG x k)) (obG x k) := by
 have hl := len_G x k
 refine ⟨par_G x k h1 h4, trivial, by unfold obG layOb; simp, by rw [hl]; omega, fun A c w h he => ?_⟩
 have e : layOb (obG x k) = 4 :: (x.1 ++ (UInt8.ofNat k :: (layB [116] ++ (layB [] ++ (be8 0 ++ (layB [] ++ [])))))) := by rw [lay_G]; simp [layB_nil, layB_one]
 rw [e] at h hl ⊢
 exact parse_tag1 _ c A x k 116 [] [] 0 h1 h4 (by decide) (by decide) (by decide) (by decide) (.inl rfl) (by omega) (by simp) w h rfl (by omega) he
theorem kn_0T : Kn [2, 0] (.tree []) :=
 ⟨by decide +kernel, .inl rfl, by simp, by simp, fun A c w h he => parse_tree0 _ c A w h rfl (by simp) he⟩
def KnS (S : Sto) : Prop := ∀ x ∈ S, ∃ o, Kn x.2 o
theorem KnS.nil : KnS [] := by intro x hx; cases hx
theorem KnS.ins {S : Sto} (h : KnS S) (i : Id) {b : Bs} {o : Ob} (hb : Kn b o) : KnS (insS i b S) := fun x hx => by
 rcases (mem_insS _ _ _ _).1 hx with rfl | hx
 · exact ⟨o, hb⟩
 · exact h x hx
theorem KnS.get {S : Sto} (h : KnS S) {i : Id} (hi : i ∈ idsS S) : ∃ b o, getS S i = some b ∧ Kn b o ∧ kindS S i = kindOb o ∧ childS S i = childOb o := by
 cases hg : getS S i with
 | none => exact absurd hi (getS_none.1 hg)
 | some b =>
   obtain ⟨o, ho⟩ := h _ (getS_mem hg)
   have ho : Kn b o := ho
   refine ⟨b, o, rfl, ho, ?_, ?_⟩
   · unfold kindS; rw [hg]; show kindB b = kindOb o; unfold kindB; rw [ho.1]
   · unfold childS; rw [hg]; show childB b = childOb o; unfold childB; rw [ho.1]
theorem ErrTab.gbn {w w' : World} (h : ErrTab w) (hb : w.grownBy w' none) : ErrTab w' := h.below (below_of_gb hb) h.lt
theorem kindK (B a m : Nat) (S : Sto) (D : DataW Value) (i : Id) (w : World) (h : StV w B a m S D) (hk : KnS S) (hi : i ∈ idsS S) (he : ErrTab w) :
 Calls Tryz.prog 46 #[.pointer (some ⟨a, 0, none⟩), .agg (U i.1).toArray] w fun e w' => e = .returned (.tuple #[.int .i64 (kindS S i : Int), .int .i64 0]) ∧ Below w.heap.size w w' := by
 obtain ⟨b, o, hg, ho, e1, _⟩ := hk.get hi
 rw [e1]
 exact kind_store B a m S D i w h o b hg (fun A c wA hs hgb => ho.2.2.2.2 A c wA hs (he.gbn hgb))
theorem childrenK (B a m : Nat) (S : Sto) (D : DataW Value) (i : Id) (w : World) (h : StV w B a m S D) (hk : KnS S) (hi : i ∈ idsS S) (he : ErrTab w) :
 Calls Tryz.prog 50 #[.pointer (some ⟨a, 0, none⟩), .agg (U i.1).toArray] w (KidsPost w (childS S i)) := by
 obtain ⟨b, o, hg, ho, _, e1⟩ := hk.get hi
 rw [e1]
 exact children_store B a m S D i w h o b hg ho.2.1 (fun A c wA hs hgb => ho.2.2.2.2 A c wA hs (he.gbn hgb))
end Go.Proofs.YtnjhjbmngoeobaaGreatDoor
