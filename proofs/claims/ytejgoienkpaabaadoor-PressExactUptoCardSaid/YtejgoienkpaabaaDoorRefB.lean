/- Contracts of the reference's Codes and Whole. -/
import Derived.Test.YtejgoienkpaabaaDoorRefA
import Derived.Test.YtejgoienkpaabaaDoorBind
namespace Go.Proofs.YtejgoienkpaabaaDoor
open Go.RowKit
set_option maxRecDepth 100000
/-- codes as cells -/
def K (l : List (Nat × List UInt8)) : List Value := l.flatMap fun c => [.int .i64 (c.1 : Int), .string ⟨c.2.toArray⟩]
theorem K_length (l : List (Nat × List UInt8)) : (K l).length = l.length * 2 := by
  induction l with
  | nil => rfl
  | cons a l ih => rw [show K (a :: l) = [.int .i64 (a.1 : Int), .string ⟨a.2.toArray⟩] ++ K l from rfl]; simp [ih]; omega
theorem K_append (a b : List (Nat × List UInt8)) : K (a ++ b) = K a ++ K b := by simp [K]
theorem K_get (l : List (Nat × List UInt8)) (i : Nat) : (K l)[2 * i]? = l[i]?.map (fun c => .int .i64 (c.1 : Int)) ∧ (K l)[2 * i + 1]? = l[i]?.map (fun c => .string ⟨c.2.toArray⟩) := by
  induction l generalizing i with
  | nil => exact ⟨rfl, rfl⟩
  | cons a l ih =>
    rw [show K (a :: l) = .int .i64 (a.1 : Int) :: .string ⟨a.2.toArray⟩ :: K l from rfl]
    cases i with
    | zero => exact ⟨rfl, rfl⟩
    | succ i => exact ih i
theorem K_one (l : List (Nat × List UInt8)) : ∀ u ∈ K l, u.oneCell' = true := by
  intro u hu
  simp only [K, List.mem_flatMap] at hu
  obtain ⟨b, _, hb⟩ := hu
  simp at hb
  rcases hb with rfl | rfl <;> rfl
/-- append(xs, u) onto a row of the call's own: one element of more cells than one -/
theorem wpList_pushK {P : Program} (W : World) {ops : Array Oper} {rest : List Oper} {o : Oper} {a : Act} {Q : Exit → Act → World → Prop} (hgd : o.guard = none) (s x : Operand) (t : TypeId)
    (ho : o.op = .call { callee := .builtin .append, args := #[s, x], argTypes := #[t, t] })
    (base : Nat) (e : TypeId) (i : TypeInfo) (z : Value) (size bytes : Nat) (ht : P.underlying t = some (.slice e)) (hi : P.info? e = some i) (hz : i.zero = some z)
    (hsize : i.size = size) (hby : i.bytes = bytes) (hzs : z.cells.size = size) (hsz : 0 < size)
    (A : Option Addr) (n c : Nat) (xs : List Value) (hs : a.eval s = .slice A n c) (hown : W.ownsRow base e size (.slice A n c) n xs)
    (us : Array Value) (m : Nat) (te : TypeId) (hus : us.size = m * size) (h1 : ∀ u ∈ us.toList, u.oneCell' = true) (hx : a.eval x = .slice (some ⟨W.heap.size, 0, none⟩) m m)
    (hbytes : (n + m) * bytes ≤ 140737488355328) (h63 : n + m ≤ maxLen) (hbase : base ≤ W.heap.size)
    (h : ∀ A' c' w', w'.ownsRow base e size (.slice A' (n + m) c') (n + m) (xs ++ us.toList) → W.grownBy w' (Value.slice A n c).ownBlock → wpList P ops Q rest (a.put o.dst (.slice A' (n + m) c')) w') :
    wpList P ops Q (o :: rest) a (W.alloc (.cells us te)) := by
  refine wpList_append_own (W.alloc (.cells us te)) hgd s x t ho base e i z size bytes ht hi hz hsize hby hzs hsz (.slice A n c) n xs hs (hown.alloc _) ⟨W.heap.size, 0, none⟩ m m us.toList hx (by simpa using hus) ?_ h1 h63 hbytes (by simp; omega) ?_
  · intro j v hj
    have := (Blk.new W te us).cell j
    rw [addr_add, Nat.zero_add, this]
    simpa using hj
  · intro v' w' ho' hg' _
    obtain ⟨A', c', rfl⟩ := own_shape ho'
    exact h A' c' w' ho' (gb_trans (gb_alloc (gb_refl _ _) _) hg')
theorem info126 : (Tryd.prog.info? 126).map (fun i => (i.zero, i.size, i.bytes)) = some (some (.agg #[.int .i64 0, .string ⟨#[]⟩]), 2, 24) := by kernel_rfl
@[go_sem] theorem build126 (s : Int) (t : ByteArray) (w : World) : (Instr.build 126 #[(0, .int .i64 s), (1, .string t)]).run Tryd.prog w = .ok (.agg #[.int .i64 s, .string t]) w := run_build w 126 _ _ (by kernel_rfl)
theorem own_below {w w' : World} {base : Nat} {e : TypeId} {size : Nat} {v : Value} {n : Nat} {xs : List Value} (h : w.ownsRow base e size v n xs) (hb : Below w.heap.size w w') : w'.ownsRow base e size v n xs := by
  refine ⟨h.1, ?_⟩
  rcases h.2 with h2 | ⟨g, cap, cur, hv, hg, hh, r⟩
  · exact Or.inl h2
  · exact Or.inr ⟨g, cap, cur, hv, hg, (hb.block g (Blk.lt (t := e) (cs := cur) hh)).trans hh, r⟩
structure Cst (w0 wr : World) (st : CS) (A : Option Addr) (c : Nat) : Prop where
  own : wr.ownsRow w0.heap.size 126 2 (.slice A st.l.length c) st.l.length (K st.l)
  below : Below w0.heap.size w0 wr
def COut (w : World) (row : List Nat) (vl vv va vn : Value) (wr : World) : Prop :=
  ∃ (k c : Nat) (A : Option Addr), 1 ≤ k ∧ k ≤ 16 ∧ vn = .int .i64 k ∧ vv = .int .i64 ((cOut row (k - 1)).v : Int) ∧ va = .int .i64 ((cOut row (k - 1)).last : Int) ∧ vl = .slice A (cOut row (k - 1)).l.length c ∧ Hid (Cst w wr (cOut row (k - 1)) A c)
def CIn (w : World) (row : List Nat) (k : Nat) (vl vv va vs : Value) (wr : World) : Prop :=
  ∃ (s c : Nat) (A : Option Addr), s ≤ row.length ∧ vs = .int .i64 s ∧ vv = .int .i64 ((cIn row k s (cOut row (k - 1))).v : Int) ∧ va = .int .i64 ((cIn row k s (cOut row (k - 1))).last : Int) ∧ vl = .slice A (cIn row k s (cOut row (k - 1))).l.length c ∧ Hid (Cst w wr (cIn row k s (cOut row (k - 1))) A c)
def CodesPost (w : World) (row : List Nat) (e : Ending) (w' : World) : Prop :=
  ∃ A c, e = .returned (.slice A (cOut row 15).l.length c) ∧ Cst w w' (cOut row 15) A c
set_option maxHeartbeats 1000000 in
theorem codes_any (b off cap : Nat) (row : List Nat) (w : World) (hr : Row w w.heap.size b off row) (hl : row.length ≤ 1000) :
    Calls Tryd.prog 50 #[.slice (some ⟨b, off, none⟩) row.length cap] w fun e w' => CodesPost w row e w' := by
  obtain ⟨i0, hi, hz0, hz1, hz2⟩ := info_parts info126
  have HR := Lib.hid hr
  clear hr
  go_enter Tryd.func50, Tryd.ntmps50
  go_wp2_with fail
  go_loopw [3, 4, 5, 6] (fun vl vv va vn wr => COut w row vl vv va vn wr) (fun _ _ _ n _ => 16 - (intOf n).toNat)
  case atStart => exact ⟨1, 0, none, by omega, by omega, rfl, rfl, rfl, rfl, ⟨World.ownsRow_nil _ _ _ _, Below.refl _ _⟩⟩
  case round =>
    obtain ⟨k, c, A, hk1, hk2, rfl, rfl, rfl, rfl, hB⟩ := hrel
    by_cases hlt : k ≤ 15
    · have hd : decide ((k : Int) ≤ 15) = true := by simp; omega
      go_wp2_with fail
      obtain ⟨wo, rfl⟩ : ∃ wo : World, wo = wr := ⟨_, rfl⟩
      go_loopw [3, 4, 5, 7] (fun vl vv va vs wr => CIn w row k vl vv va vs wr) (fun _ _ _ n _ => row.length - (intOf n).toNat)
      case atStart => exact ⟨0, c, A, by omega, rfl, rfl, rfl, rfl, hB⟩
      case round =>
        obtain ⟨s, c1, A1, hs, rfl, rfl, rfl, rfl, hB1⟩ := hrel
        by_cases hlt1 : s < row.length
        · obtain ⟨x, hx⟩ : ∃ x, x = row.getD s 0 := ⟨_, rfl⟩
          have hcell : wr.cell? ⟨b, off + s, none⟩ = some (.int .i64 (x : Int)) := by rw [hx]; exact (HR.out.below hB1.out.below).2 s hlt1
          have HX := Lib.hid hx
          clear hx
          by_cases hxk : x = k
          · have hxb : ((x : Int) != (k : Int)) = false := by simp; omega
            have HXK := Lib.hid hxk
            clear hxk
            have hcb : CB k ((k - 1) * row.length + s) (cIn row k s (cOut row (k - 1))) := cIn_CB row k _ s _ ⟨by have := (cOut_CB row (k - 1)).1; omega, (cOut_CB row (k - 1)).2⟩
            have hm : (k - 1) * row.length ≤ 15 * row.length := Nat.mul_le_mul_right _ (by omega)
            have HNX : Hid (cIn row k (s + 1) (cOut row (k - 1)) = ⟨cVal k (cIn row k s (cOut row (k - 1))), k, (cIn row k s (cOut row (k - 1))).l ++ [(s, digs (cVal k (cIn row k s (cOut row (k - 1)))) k)]⟩) := by
              show _ = _
              rw [cIn, ← HX.out, HXK.out]
              simp [cStep]
            generalize cIn row k s (cOut row (k - 1)) = st at *
            have hvl := cVal_le k _ st hcb
            have hlen : st.l.length ≤ 20000 := by have := hcb.2.1; omega
            have hlast := hcb.1
            have hvle : cVal k st ≤ 655360000 := by
              have hp : 2 ^ k ≤ 32768 := Nat.pow_le_pow_right (by decide) (show k ≤ 15 by omega)
              have := Nat.mul_le_mul hlen hp
              omega
            have hsv : st.v ≤ 655360000 := by
              rcases hcb.2.2 with h | ⟨_, h⟩
              · have hp : 2 ^ st.last ≤ 32768 := Nat.pow_le_pow_right (by decide) (show st.last ≤ 15 by omega)
                have := Nat.mul_le_mul hlen hp
                omega
              · omega
            have hO := Lib.hid hB1.out.own
            have hb1 := Lib.hid hB1.out.below
            have hsz := hB1.out.below.size
            clear hm hvl hcb hB1
            obtain ⟨y, hy⟩ : ∃ y : Nat, y = cVal k st := ⟨_, rfl⟩
            rw [← hy] at HNX hvle
            have HY := Lib.hid hy
            clear hy
            by_cases h0 : 0 < st.l.length
            · have hd2 : decide ((0 : Int) < (st.l.length : Int)) = true := by simp; omega
              obtain ⟨d, hdd⟩ : ∃ d, d = k - st.last := ⟨_, rfl⟩
              have em : (k : Int) - (st.last : Int) = (d : Int) := by omega
              have hyv : ((st.v : Int) + 1) * 2 ^ d = (y : Int) := by
                rw [HY.out, cVal, if_neg (by intro h; rw [h] at h0; simp at h0), ← hdd]; push_cast; rfl
              have hd15 : d ≤ 15 := by omega
              clear hdd
              have hmin : min d 64 = d := Nat.min_eq_left (by omega)
              go_wp2_with fail
              refine (digits_any y k wr (by omega)).mono ?_
              rintro e w1 ⟨rfl, hbw⟩
              have hO1 := Lib.hid (own_below hO.out hbw)
              have hb2 := Lib.hid (hb1.out.trans (hbw.mono hsz))
              have hsz2 : w.heap.size ≤ w1.heap.size := Nat.le_trans hsz hbw.size
              clear hO hb1 hbw
              go_wp2_with (first
                | (at_builtin
                   refine wpList_pushK w1 rfl (.tmp 35) (.tmp 41) 98 rfl w.heap.size 126 i0 _ 2 24 Tryd.underlying98 hi hz0 hz1 hz2 rfl (by decide) A1 st.l.length c1 (K st.l) rfl hO1.out _ 1 _ rfl ?_ rfl (by omega) (by unfold maxLen; omega) hsz2 ?_
                   · intro u hu
                     simp at hu
                     rcases hu with rfl | rfl <;> rfl
                   intro A2 c2 w2 hown2 hg2)
                | fail)
              go_roundw
              case rel =>
                refine ⟨s + 1, c2, A2, by omega, by go_num, by rw [HNX.out], by rw [HNX.out], by rw [HNX.out]; simp, ?_⟩
                rw [HNX.out]
                refine ⟨?_, hb2.out.grown hg2 hsz2 (fun q hq => (hO1.out.lt q hq).1)⟩
                simpa [K_append, K] using hown2
              case measure => simp [intOf]; omega
            · have hd2 : decide ((0 : Int) < (st.l.length : Int)) = false := decide_eq_false (by omega)
              have hyv : st.v = y := by
                rw [HY.out, cVal, if_pos (List.eq_nil_of_length_eq_zero (by omega))]
              have h00 : st.l.length ≤ 0 := by omega
              rw [hyv]
              have HY2 := Lib.hid hyv
              clear hyv
              go_wp2_with fail
              refine (digits_any y k wr (by omega)).mono ?_
              rintro e w1 ⟨rfl, hbw⟩
              have hO1 := Lib.hid (own_below hO.out hbw)
              have hb2 := Lib.hid (hb1.out.trans (hbw.mono hsz))
              have hsz2 : w.heap.size ≤ w1.heap.size := Nat.le_trans hsz hbw.size
              clear hO hb1 hbw
              go_wp2_with (first
                | (at_builtin
                   refine wpList_pushK w1 rfl (.tmp 35) (.tmp 41) 98 rfl w.heap.size 126 i0 _ 2 24 Tryd.underlying98 hi hz0 hz1 hz2 rfl (by decide) A1 st.l.length c1 (K st.l) rfl hO1.out _ 1 _ rfl ?_ rfl (by omega) (by unfold maxLen; omega) hsz2 ?_
                   · intro u hu
                     simp at hu
                     rcases hu with rfl | rfl <;> rfl
                   intro A2 c2 w2 hown2 hg2)
                | fail)
              go_roundw
              case rel =>
                refine ⟨s + 1, c2, A2, by omega, by go_num, by rw [HNX.out], by rw [HNX.out], by rw [HNX.out]; simp, ?_⟩
                rw [HNX.out]
                refine ⟨?_, hb2.out.grown hg2 hsz2 (fun q hq => (hO1.out.lt q hq).1)⟩
                simpa [K_append, K] using hown2
              case measure => simp [intOf]; omega
          · have hxb : ((x : Int) != (k : Int)) = true := by simp; omega
            have HNX : Hid (cIn row k (s + 1) (cOut row (k - 1)) = cIn row k s (cOut row (k - 1))) := by
              show _ = _
              rw [cIn, ← HX.out]
              simp [cStep, hxk]
            generalize cIn row k s (cOut row (k - 1)) = st at *
            go_wp2_with fail
            go_roundw
            case rel => exact ⟨s + 1, c1, A1, by omega, by go_num, by rw [HNX.out], by rw [HNX.out], by rw [HNX.out], by rw [HNX.out]; exact hB1⟩
            case measure => simp [intOf]; omega
        · have hse : cIn row k s (cOut row (k - 1)) = cOut row k := by
            obtain rfl : s = row.length := by omega
            obtain ⟨k', rfl⟩ : ∃ k', k = k' + 1 := ⟨k - 1, by omega⟩
            rfl
          rw [hse] at hB1 ⊢
          clear hse
          go_wp2_with fail
          go_roundw
          case rel => exact ⟨k + 1, c1, A1, by omega, by omega, by go_num, rfl, rfl, rfl, hB1⟩
          case measure => simp [intOf]; omega
    · obtain rfl : k = 16 := by omega
      have hB' : Hid (Cst w wr (cOut row 15) A c) := hB
      clear hB
      have hle := (cOut_CB row 15).2.1
      show Code.wp _ _ _ _ _
      simp only [Nat.reduceSub]
      have HST := Lib.hid hB'
      go_wp2_with fail
      go_ret
      exact ⟨_, _, rfl, hB'.out⟩
def WhoRel (row : List Nat) (va vu vo vi : Value) : Prop :=
  ∃ s : Nat, s ≤ row.length ∧ vi = .int .i64 s ∧ va = .int .i64 ((wGo row s).sum : Int) ∧ vu = .int .i64 ((wGo row s).used : Int) ∧ vo = .int .i64 ((wGo row s).ones : Int)
theorem ret_bool {a b : Bool} (h : a = b) : Ending.returned (.bool a) = .returned (.bool b) := by rw [h]
set_option maxHeartbeats 1000000 in
theorem whole_any (b off cap : Nat) (row : List Nat) (nn : Bool) (w : World) (hr : Row w w.heap.size b off row) (hl : row.length ≤ 1000) (h15 : ∀ s, row.getD s 0 ≤ 15) :
    Calls Tryd.prog 54 #[.slice (some ⟨b, off, none⟩) row.length cap, .bool nn] w fun e w' => e = .returned (.bool (wOk row nn)) ∧ w' = w := by
  have HR := Lib.hid hr
  have H15 := Lib.hid h15
  clear hr h15
  go_enter Tryd.func54, Tryd.ntmps54
  go_wp2_with fail
  go_loop [5, 6, 7, 8] (fun va vu vo vi => WhoRel row va vu vo vi) (fun _ _ _ vi => row.length - (intOf vi).toNat)
  case atStart => exact ⟨0, by omega, rfl, rfl, rfl, rfl⟩
  case round =>
    obtain ⟨s, hs, rfl, rfl, rfl, rfl⟩ := hrel
    have hle := wGo_le row s
    by_cases hlt : s < row.length
    · obtain ⟨x, hx⟩ : ∃ x, x = row.getD s 0 := ⟨_, rfl⟩
      have hcell : w.cell? ⟨b, off + s, none⟩ = some (.int .i64 (x : Int)) := by rw [hx]; exact HR.out.2 s hlt
      have hx15 : x ≤ 15 := by rw [hx]; exact H15.out s
      have HX := Lib.hid hx
      clear hx
      have hb1 : (wGo row s).sum ≤ 1000000000 := by omega
      have hb2 : (wGo row s).used ≤ 1000 := by omega
      have hb3 : (wGo row s).ones ≤ 1000 := by omega
      clear hle
      by_cases h1 : x < 1
      · have hd : decide ((x : Int) < 1) = true := by simp; omega
        have HNX : Hid (wGo row (s + 1) = wGo row s) := by
          show _ = _
          rw [wGo, ← HX.out, wStep, if_pos h1]
        go_wp2_with fail
        go_round
        case rel => exact ⟨s + 1, by omega, by go_num, by rw [HNX.out], by rw [HNX.out], by rw [HNX.out]⟩
        case measure => simp [intOf]; omega
      · have hd : decide ((x : Int) < 1) = false := by simp; omega
        have hval := shl_pow x hx15
        obtain ⟨d, hdd⟩ : ∃ d, d = 15 - x := ⟨_, rfl⟩
        have em : (15 : Int) - (x : Int) = (d : Int) := by omega
        have hval2 : (2 : Int) ^ d = ((2 ^ d : Nat) : Int) := by push_cast; rfl
        rw [← hdd] at hval
        obtain ⟨y, hy⟩ : ∃ y : Nat, y = 2 ^ d := ⟨_, rfl⟩
        have hyb : y ≤ 32768 := by rw [hy]; exact Nat.pow_le_pow_right (by decide) (show d ≤ 15 by omega)
        rw [← hy] at hval hval2
        have HY : Hid (y = 2 ^ (15 - x)) := by show _ = _; rw [hy, hdd]
        have hd64 : min d 64 = d := Nat.min_eq_left (by omega)
        have hd15 : d ≤ 15 := by omega
        clear hy hdd
        by_cases hx1 : x = 1
        · have hxb : ((x : Int) == 1) = true := beq_iff_eq.2 (by omega)
          have HNX : Hid (wGo row (s + 1) = ⟨(wGo row s).sum + y, (wGo row s).used + 1, (wGo row s).ones + 1⟩) := by
            show _ = _
            rw [wGo, ← HX.out, wStep, if_neg h1, if_pos hx1, ← HY.out]
          have HX1 := Lib.hid hx1
          clear hx1
          go_wp2_with fail
          go_round
          case rel => exact ⟨s + 1, by omega, by go_num, by rw [HNX.out]; simp, by rw [HNX.out]; simp, by rw [HNX.out]; simp⟩
          case measure => simp [intOf]; omega
        · have hxb : ((x : Int) == 1) = false := beq_eq_false_iff_ne.2 (by omega)
          have HNX : Hid (wGo row (s + 1) = ⟨(wGo row s).sum + y, (wGo row s).used + 1, (wGo row s).ones⟩) := by
            show _ = _
            rw [wGo, ← HX.out, wStep, if_neg h1, if_neg hx1, ← HY.out]
          go_wp2_with fail
          go_round
          case rel => exact ⟨s + 1, by omega, by go_num, by rw [HNX.out]; simp, by rw [HNX.out]; simp, by rw [HNX.out]⟩
          case measure => simp [intOf]; omega
    · obtain rfl : s = row.length := by omega
      have hok : Hid (wOk row nn = if (wGo row row.length).used = 0 then nn else if (wGo row row.length).used = 1 then decide ((wGo row row.length).ones = 1) else decide ((wGo row row.length).sum = 32768)) := rfl
      generalize wGo row row.length = st at *
      by_cases h0 : st.used = 0
      · have hb0 : ((st.used : Int) == 0) = true := beq_iff_eq.2 (by omega)
        have H0 := Lib.hid h0
        clear h0
        go_wp2_with fail
        go_ret
        exact ⟨by rw [hok.out, if_pos H0.out]; rfl, rfl⟩
      · have hb0 : ((st.used : Int) == 0) = false := beq_eq_false_iff_ne.2 (by omega)
        have H0 := Lib.hid h0
        by_cases h1 : st.used = 1
        · have hb1 : ((st.used : Int) == 1) = true := beq_iff_eq.2 (by omega)
          have H1 := Lib.hid h1
          clear h1 h0
          go_wp2_with fail
          go_ret
          exact ⟨by rw [hok.out, if_neg H0.out, if_pos H1.out]; exact ret_bool (eqb _ 1), rfl⟩
        · have hb1 : ((st.used : Int) == 1) = false := beq_eq_false_iff_ne.2 (by omega)
          have H1 := Lib.hid h1
          clear h1 h0
          go_wp2_with fail
          go_ret
          exact ⟨by rw [hok.out, if_neg H0.out, if_neg H1.out]; exact ret_bool (eqb _ 32768), rfl⟩
end Go.Proofs.YtejgoienkpaabaaDoor
