/- SortD, SortE, HufA (merged: one text behind the other). -/
import Derived.Test.YtejgoienkpaabaaDoorMg21
import Derived.Deep.Cut
import Derived.Deep.CutRange
import Derived.Test.YtejgoienkpaabaaDoorMg12
/- The sort of measure's leaves: symMerge. -/
namespace Go.Proofs.YtejgoienkpaabaaDoor
open Go.RowKit
set_option maxRecDepth 100000
/-- where symMerge cuts -/
def symS (ws : Nat → Nat) (a m b : Nat) (d : List Nat) : Nat :=
  bsr (fun c => !less ws d ((a + b) / 2 + m - 1 - c) c) ((if (a + b) / 2 < m then (a + b) / 2 else m) - (if (a + b) / 2 < m then (a + b) / 2 + m - b else a))
    (if (a + b) / 2 < m then (a + b) / 2 + m - b else a) (if (a + b) / 2 < m then (a + b) / 2 else m)
def r1 (x y z : Nat) (d : List Nat) : List Nat := if x < y ∧ y < z then rot x y z d else d
def r2 (rec : Nat → Nat → Nat → List Nat → List Nat) (x y z : Nat) (d : List Nat) : List Nat := if x < y ∧ y < z then rec x y z d else d
def r3 (rec : Nat → Nat → Nat → List Nat → List Nat) (a m b mid st en : Nat) (d : List Nat) : List Nat := r2 rec mid en b (r2 rec a st mid (r1 st m en d))
def symM (ws : Nat → Nat) : Nat → Nat → Nat → Nat → List Nat → List Nat
  | 0, _, _, _, d => d
  | f + 1, a, m, b, d =>
    if m = a + 1 then slideUp (bsr (fun h => less ws d h a) (b - m) m b - 1) b a d
    else if b = m + 1 then slideDown (bsr (fun h => !less ws d m h) (m - a) a m) m d
    else r3 (symM ws f) a m b ((a + b) / 2) (symS ws a m b d) ((a + b) / 2 + m - symS ws a m b d) d
def SymC (ws : Nat → Nat) (f : Nat) : Prop :=
  ∀ (w0 w : World) (T g c n N : Nat) (pv : Nat → Nat) (d0 d : List Nat) (a m b : Nat), SR w0 w T g c n N pv ws d0 d → a < m → m < b → b ≤ n → n ≤ 1000 → b ≤ a + f →
    Calls Tryd.prog 103 #[.slice (some ⟨g, 0, none⟩) n c, .int .i64 a, .int .i64 m, .int .i64 b, CmpV] w fun e w' => e = .returned (.tuple #[]) ∧ SR w0 w' T g c n N pv ws d0 (symM ws f a m b d)
theorem and_cases {x y z : Nat} : ((x < y ∧ y < z) ∧ decide ((x : Int) < (y : Int)) = true ∧ decide ((y : Int) < (z : Int)) = true) ∨ (¬ (x < y ∧ y < z) ∧ decide ((x : Int) < (y : Int)) = true ∧ decide ((y : Int) < (z : Int)) = false) ∨
    (¬ (x < y ∧ y < z) ∧ decide ((x : Int) < (y : Int)) = false) := by
  by_cases h1 : x < y
  · by_cases h2 : y < z
    · exact .inl ⟨⟨h1, h2⟩, decide_eq_true (by omega), decide_eq_true (by omega)⟩
    · exact .inr (.inl ⟨fun h => h2 h.2, decide_eq_true (by omega), decide_eq_false (by omega)⟩)
  · exact .inr (.inr ⟨fun h => h1 h.1, decide_eq_false (by omega)⟩)
set_option maxHeartbeats 4000000 in
theorem sym_step (ws : Nat → Nat) (f : Nat) (IH : SymC ws f) (w0 w : World) (T g c n N : Nat) (pv : Nat → Nat) (d0 d : List Nat) (a m b : Nat) (h : SR w0 w T g c n N pv ws d0 d) (ha : a + 1 < m) (hm : m + 1 < b) (hb : b ≤ n) (hn : n ≤ 1000) (hf : b ≤ a + (f + 1)) :
    Calls Tryd.prog 103 #[.slice (some ⟨g, 0, none⟩) n c, .int .i64 a, .int .i64 m, .int .i64 b, CmpV] w fun e w' => e = .returned (.tuple #[]) ∧ SR w0 w' T g c n N pv ws d0 (symM ws (f + 1) a m b d) := by
  have H := Lib.hid h
  have HI := Lib.hid IH
  clear h IH
  obtain ⟨ma, hma⟩ : ∃ x, x = m - a := ⟨_, rfl⟩
  have ema : (m : Int) - (a : Int) = (ma : Int) := by omega
  have hne : ((ma : Int) == 1) = false := beq_eq_false_iff_ne.2 (by omega)
  obtain ⟨bm, hbm⟩ : ∃ x, x = b - m := ⟨_, rfl⟩
  have ebm : (b : Int) - (m : Int) = (bm : Int) := by omega
  have hne2 : ((bm : Int) == 1) = false := beq_eq_false_iff_ne.2 (by omega)
  obtain ⟨mid, hmid⟩ : ∃ x, x = (a + b) / 2 := ⟨_, rfl⟩
  have emid : ((a : Int) + (b : Int)) / 2 = (mid : Int) := by omega
  obtain ⟨nn, hnn⟩ : ∃ x, x = mid + m := ⟨_, rfl⟩
  have enn : (mid : Int) + (m : Int) = (nn : Int) := by omega
  obtain ⟨p, hp⟩ : ∃ x, x = mid + m - 1 := ⟨_, rfl⟩
  have ep : (nn : Int) - 1 = (p : Int) := by omega
  obtain ⟨s0, hs0⟩ : ∃ x, x = if mid < m then mid + m - b else a := ⟨_, rfl⟩
  obtain ⟨r0, hr0⟩ : ∃ x, x = if mid < m then mid else m := ⟨_, rfl⟩
  obtain ⟨res, hres⟩ : ∃ r, r = bsr (fun c => !less ws d (p - c) c) (r0 - s0) s0 r0 := ⟨_, rfl⟩
  have hrs : res = symS ws a m b d := by
    rw [hres, symS, ← hmid, ← hs0, ← hr0, hp]
  obtain ⟨en, hen⟩ : ∃ x, x = mid + m - res := ⟨_, rfl⟩
  have HG : symM ws (f + 1) a m b d = r3 (symM ws f) a m b mid res en d := by
    rw [symM, if_neg (by omega), if_neg (by omega), ← hmid, ← hrs, ← hen]
  rw [HG]
  have hb0 : s0 ≤ r0 ∧ a ≤ s0 ∧ r0 ≤ mid ∧ r0 ≤ m ∧ nn ≤ b + s0 ∧ mid ≤ nn - r0 ∧ a < mid ∧ mid < b := by
    by_cases hc : mid < m
    · rw [if_pos hc] at hs0 hr0; omega
    · rw [if_neg hc] at hs0 hr0; omega
  obtain ⟨b1, b2, b3, b4, b5, b6, b7, b8⟩ := hb0
  have b9 : m ≤ nn - r0 := by omega
  have b10 : p + 1 = nn := by omega
  have b11 : nn ≤ 3000 := by omega
  have HRS := Lib.hid hres
  have HEN : Hid (en = nn - res) := by unfold Hid; rw [hen, hnn]
  have hcas : (mid < m ∧ (nn : Int) - (b : Int) = (s0 : Int) ∧ Value.int .i64 (mid : Int) = Value.int .i64 (r0 : Int)) ∨
      (¬ mid < m ∧ Value.int .i64 (a : Int) = Value.int .i64 (s0 : Int) ∧ Value.int .i64 (m : Int) = Value.int .i64 (r0 : Int)) := by
    by_cases hc : mid < m
    · rw [if_pos hc] at hs0 hr0
      exact .inl ⟨hc, by omega, by rw [hr0]⟩
    · rw [if_neg hc] at hs0 hr0
      exact .inr ⟨hc, by rw [hs0], by rw [hr0]⟩
  clear hma hbm hres hrs hs0 hr0 hmid hnn hp HG hen
  go_enter Tryd.func103, Tryd.ntmps103
  rcases hcas with ⟨hd0, es0, er0⟩ | ⟨hd0, es0, er0⟩
  all_goals
    have ER := Lib.hid er0
    have ES := Lib.hid es0
    clear er0
    first
      | (have es1 : (nn : Int) - (b : Int) = (s0 : Int) := es0; clear es0)
      | clear es0
    first
      | (have hgt : decide ((m : Int) > (mid : Int)) = true := decide_eq_true (by omega))
      | (have hgt : decide ((m : Int) > (mid : Int)) = false := decide_eq_false (by omega))
    go_wp2_with fail
    (try clear es1)
    clear hd0 hgt
    go_loopw [20, 21] (fun vi vj wr => BsRel w0 T g c n N pv ws d0 d (fun c => !less ws d (p - c) c) s0 r0 res vi vj wr) (fun vi vj _ => (intOf vj).toNat - (intOf vi).toNat)
    case atStart => exact ⟨s0, r0, r0 - s0, by omega, by omega, by omega, by omega, by first | rfl | exact ES.out, ER.out, HRS.out.symm, H⟩
    case round =>
      obtain ⟨i, j, f1, q1, q2, q3, q4, rfl, rfl, HE, HS⟩ := hrel
      by_cases hij : i < j
      · have hd : decide ((i : Int) < (j : Int)) = true := decide_eq_true (by omega)
        obtain ⟨f1, rfl⟩ : ∃ k, f1 = k + 1 := ⟨f1 - 1, by omega⟩
        obtain ⟨x, hx⟩ : ∃ x, x = (i + j) / 2 := ⟨_, rfl⟩
        have ex : ((i : Int) + (j : Int)) / 2 = (x : Int) := by omega
        obtain ⟨y, hy⟩ : ∃ y, y = p - x := ⟨_, rfl⟩
        have ey : (p : Int) - (x : Int) = (y : Int) := by omega
        have hE := HE.out
        rw [bsr, if_pos hij, ← hx, ← hy] at hE
        have hxb : i ≤ x ∧ x < j ∧ j ≤ x + 1 + f1 ∧ x ≤ i + f1 := by omega
        have hxn : x < n := by omega
        have hyn : y < n := by omega
        clear hx hy
        have ca := HS.out.at_ hxn
        have cb := HS.out.at_ hyn
        obtain ⟨wa, la⟩ := HS.out.wt hxn
        obtain ⟨wb, lb⟩ := HS.out.wt hyn
        obtain ⟨xa, hxa⟩ : ∃ z, z = ws (d.getD x 0) := ⟨_, rfl⟩
        obtain ⟨xb, hxb'⟩ : ∃ z, z = ws (d.getD y 0) := ⟨_, rfl⟩
        obtain ⟨pa, hpa⟩ : ∃ z, z = pv (d.getD x 0) := ⟨_, rfl⟩
        obtain ⟨pb, hpb⟩ : ∃ z, z = pv (d.getD y 0) := ⟨_, rfl⟩
        rw [less_cmp hxb' hxa] at hE
        rw [← hpa] at ca
        rw [← hpb] at cb
        rw [← hpa, ← hxa] at wa
        rw [← hpb, ← hxb'] at wb
        rw [← hxa] at la
        rw [← hxb'] at lb
        clear hxa hxb' hpa hpb
        cases hdw : decide ((xb : Int) - (xa : Int) < 0) with
        | false =>
          rw [if_pos (by rw [hdw]; rfl)] at hE
          have HE3 := Lib.hid hE
          clear hE HE
          go_wp2_with fail
          go_quiet ((go_at_call 96; exact Calls.quiet_of (cmp_any pb pa xb xa _ wb wa lb la)))
          have S2 := Lib.hid (HS.out.drewN nq)
          clear ca cb wa wb HS
          generalize wr.drewN nq = w2 at S2 ⊢
          go_wp2_with fail
          go_roundw
          case rel => exact ⟨x + 1, j, f1, by omega, by omega, by omega, by omega, by go_num, rfl, HE3, S2⟩
          case measure => simp [intOf]; omega
        | true =>
          rw [if_neg (by rw [hdw]; simp)] at hE
          have HE3 := Lib.hid hE
          clear hE HE
          go_wp2_with fail
          go_quiet ((go_at_call 96; exact Calls.quiet_of (cmp_any pb pa xb xa _ wb wa lb la)))
          have S2 := Lib.hid (HS.out.drewN nq)
          clear ca cb wa wb HS
          generalize wr.drewN nq = w2 at S2 ⊢
          go_wp2_with fail
          go_roundw
          case rel => exact ⟨i, x, f1, by omega, by omega, by omega, by omega, rfl, rfl, HE3, S2⟩
          case measure => simp [intOf]; omega
      · have hd : decide ((i : Int) < (j : Int)) = false := decide_eq_false (by omega)
        have hre : i = res := by
          have hE := HE.out
          cases f1 with
          | zero => exact hE
          | succ f => rw [bsr, if_neg hij] at hE; exact hE
        have hb3 : s0 ≤ res ∧ res ≤ r0 := by omega
        subst hre
        have hen := HEN.out
        have een : (nn : Int) - (i : Int) = (en : Int) := by omega
        have c1 : en ≤ b ∧ m ≤ en ∧ mid ≤ en ∧ a ≤ i ∧ i ≤ mid := by omega
        obtain ⟨c1, c2, c3, c4, c5⟩ := c1
        clear HE HRS hen
        go_upto_region 39 with fail
        go_cut [185] from 178 (fun v wx => v = .bool (decide (i < m ∧ m < en)) ∧ wx = wr)
        case first =>
          rcases and_cases (x := i) (y := m) (z := en) with ⟨g1, g2, g3⟩ | ⟨g1, g2, g3⟩ | ⟨g1, g2⟩
          · have g4 : i < m := g1.1
            have g5 : m < en := g1.2
            go_wp2_with fail
            go_meet
            case rel => exact ⟨by rw [decide_eq_true g1], rfl⟩
          · have g4 : i < m := by have := of_decide_eq_true g2; omega
            have g5 : ¬ m < en := by have := of_decide_eq_false g3; omega
            go_wp2_with fail
            go_meet
            case rel => exact ⟨by rw [decide_eq_false g1], rfl⟩
          · have g4 : ¬ i < m := by have := of_decide_eq_false g2; omega
            go_wp2_with fail
            go_meet
            case rel => exact ⟨by rw [decide_eq_false g1], rfl⟩
        case rest =>
          obtain ⟨rfl, rfl⟩ := hcut
          go_upto_if 185 with fail
          go_cut [] from 178 (fun wx => Hid (SR w0 wx T g c n N pv ws d0 (r1 i m en d)))
          case first =>
            by_cases g1 : i < m ∧ m < en
            · have g2 : decide (i < m ∧ m < en) = true := decide_eq_true g1
              have HR : Hid (r1 i m en d = rot i m en d) := by unfold Hid r1; rw [if_pos g1]
              go_wp2_with fail
              refine (rotate_any w0 _ T g c n N pv ws d0 d i m en _ HS.out g1.1 g1.2 (by omega) hn).mono ?_
              rintro e w1 ⟨rfl, hS⟩
              rw [← HR.out] at hS
              have HS2 := Lib.hid hS
              clear hS
              go_wp2_with fail
              go_meet
              case rel => exact HS2
            · have g2 : decide (i < m ∧ m < en) = false := decide_eq_false g1
              have HR : Hid (r1 i m en d = d) := by unfold Hid r1; rw [if_neg g1]
              go_wp2_with fail
              go_meet
              case rel => rw [HR.out]; exact HS
          case rest =>
            clear HS
            generalize hd1 : r1 i m en d = d1 at *
            have HD1 := Lib.hid hd1
            clear hd1
            obtain ⟨wr, rfl⟩ : ∃ z : World, z = wc := ⟨_, rfl⟩
            have HS := Lib.hid hcut.out
            clear hcut
            go_upto_region 41 with fail
            go_cut [199] from 192 (fun v wx => v = .bool (decide (a < i ∧ i < mid)) ∧ wx = wr)
            case first =>
              rcases and_cases (x := a) (y := i) (z := mid) with ⟨g1, g2, g3⟩ | ⟨g1, g2, g3⟩ | ⟨g1, g2⟩
              · have g4 : a < i := g1.1
                have g5 : i < mid := g1.2
                go_wp2_with fail
                go_meet
                case rel => exact ⟨by rw [decide_eq_true g1], rfl⟩
              · have g4 : a < i := by have := of_decide_eq_true g2; omega
                have g5 : ¬ i < mid := by have := of_decide_eq_false g3; omega
                go_wp2_with fail
                go_meet
                case rel => exact ⟨by rw [decide_eq_false g1], rfl⟩
              · have g4 : ¬ a < i := by have := of_decide_eq_false g2; omega
                go_wp2_with fail
                go_meet
                case rel => exact ⟨by rw [decide_eq_false g1], rfl⟩
            case rest =>
              obtain ⟨rfl, rfl⟩ := hcut
              go_upto_if 199 with fail
              go_cut [] from 192 (fun wx => Hid (SR w0 wx T g c n N pv ws d0 (r2 (symM ws f) a i mid d1)))
              case first =>
                by_cases g1 : a < i ∧ i < mid
                · have g2 : decide (a < i ∧ i < mid) = true := decide_eq_true g1
                  have HR : Hid (r2 (symM ws f) a i mid d1 = symM ws f a i mid d1) := by unfold Hid r2; rw [if_pos g1]
                  go_wp2_with fail
                  refine (HI.out w0 _ T g c n N pv d0 d1 a i mid HS.out g1.1 g1.2 (by omega) hn (by omega)).mono ?_
                  rintro e w1 ⟨rfl, hS⟩
                  rw [← HR.out] at hS
                  have HS2 := Lib.hid hS
                  clear hS
                  go_wp2_with fail
                  go_meet
                  case rel => exact HS2
                · have g2 : decide (a < i ∧ i < mid) = false := decide_eq_false g1
                  have HR : Hid (r2 (symM ws f) a i mid d1 = d1) := by unfold Hid r2; rw [if_neg g1]
                  go_wp2_with fail
                  go_meet
                  case rel => rw [HR.out]; exact HS
              case rest =>
                clear HS
                generalize hd2 : r2 (symM ws f) a i mid d1 = d2 at *
                have HD2 := Lib.hid hd2
                clear hd2
                obtain ⟨wr, rfl⟩ : ∃ z : World, z = wc := ⟨_, rfl⟩
                have HS := Lib.hid hcut.out
                clear hcut
                go_upto_region 43 with fail
                go_cut [213] from 206 (fun v wx => v = .bool (decide (mid < en ∧ en < b)) ∧ wx = wr)
                case first =>
                  rcases and_cases (x := mid) (y := en) (z := b) with ⟨g1, g2, g3⟩ | ⟨g1, g2, g3⟩ | ⟨g1, g2⟩
                  · have g4 : mid < en := g1.1
                    have g5 : en < b := g1.2
                    go_wp2_with fail
                    go_meet
                    case rel => exact ⟨by rw [decide_eq_true g1], rfl⟩
                  · have g4 : mid < en := by have := of_decide_eq_true g2; omega
                    have g5 : ¬ en < b := by have := of_decide_eq_false g3; omega
                    go_wp2_with fail
                    go_meet
                    case rel => exact ⟨by rw [decide_eq_false g1], rfl⟩
                  · have g4 : ¬ mid < en := by have := of_decide_eq_false g2; omega
                    go_wp2_with fail
                    go_meet
                    case rel => exact ⟨by rw [decide_eq_false g1], rfl⟩
                case rest =>
                  obtain ⟨rfl, rfl⟩ := hcut
                  have HX : Hid (r3 (symM ws f) a m b mid i en d = r2 (symM ws f) mid en b d2) := by
                    unfold Hid r3
                    rw [HD1.out, HD2.out]
                  by_cases g1 : mid < en ∧ en < b
                  · have g2 : decide (mid < en ∧ en < b) = true := decide_eq_true g1
                    have HR : Hid (r2 (symM ws f) mid en b d2 = symM ws f mid en b d2) := by unfold Hid r2; rw [if_pos g1]
                    go_wp2_with fail
                    refine (HI.out w0 _ T g c n N pv d0 d2 mid en b HS.out g1.1 g1.2 hb hn (by omega)).mono ?_
                    rintro e w1 ⟨rfl, hS⟩
                    rw [← HR.out, ← HX.out] at hS
                    have HS2 := Lib.hid hS
                    clear hS
                    go_wp2_with fail
                    go_end0
                    exact ⟨rfl, HS2.out⟩
                  · have g2 : decide (mid < en ∧ en < b) = false := decide_eq_false g1
                    have HR : Hid (r2 (symM ws f) mid en b d2 = d2) := by unfold Hid r2; rw [if_neg g1]
                    go_wp2_with fail
                    go_end0
                    refine ⟨rfl, ?_⟩
                    rw [HX.out, HR.out]
                    exact HS.out
end Go.Proofs.YtejgoienkpaabaaDoor

/- The sort of measure's leaves: symMerge whole, stable, SortStableFunc. -/
namespace Go.Proofs.YtejgoienkpaabaaDoor
open Go.RowKit
set_option maxRecDepth 100000
theorem sym_any (ws : Nat → Nat) : ∀ f, SymC ws f := by
  intro f
  induction f with
  | zero => intro w0 w T g c n N pv d0 d a m b _ h1 h2 h3 _ h5; omega
  | succ f ih =>
    intro w0 w T g c n N pv d0 d a m b h h1 h2 h3 h4 h5
    by_cases ha : m = a + 1
    · have e : symM ws (f + 1) a m b d = slideUp (bsr (fun h => less ws d h a) (b - m) m b - 1) b a d := by rw [symM, if_pos ha]
      rw [e]
      exact sym_one w0 w T g c n N pv ws d0 d a m b h ha h2 h3 h4
    · by_cases hb : b = m + 1
      · have e : symM ws (f + 1) a m b d = slideDown (bsr (fun h => !less ws d m h) (m - a) a m) m d := by rw [symM, if_neg ha, if_pos hb]
        rw [e]
        exact sym_last w0 w T g c n N pv ws d0 d a m b h (by omega) hb h3 h4
      · exact sym_step ws f ih w0 w T g c n N pv d0 d a m b h (by omega) (by omega) h3 h4 h5
def stI (ws : Nat → Nat) (n : Nat) : Nat → Nat → List Nat → List Nat
  | 0, a, d => ins ws a n d
  | f + 1, a, d => if a + 20 ≤ n then stI ws n f (a + 20) (ins ws a (a + 20) d) else ins ws a n d
def mp (ws : Nat → Nat) (n bs : Nat) : Nat → Nat → List Nat → List Nat
  | 0, _, d => d
  | f + 1, a, d => if a + 2 * bs ≤ n then mp ws n bs f (a + 2 * bs) (symM ws n a (a + bs) (a + 2 * bs) d) else if a + bs < n then symM ws n a (a + bs) n d else d
def stO (ws : Nat → Nat) (n : Nat) : Nat → Nat → List Nat → List Nat
  | 0, _, d => d
  | f + 1, bs, d => if bs < n then stO ws n f (2 * bs) (mp ws n bs (n + 1) 0 d) else d
/-- what SortStableFunc leaves -/
def stableP (ws : Nat → Nat) (n : Nat) (d : List Nat) : List Nat := stO ws n n 20 (stI ws n n 0 d)
def StIRel (w0 : World) (T g c n N : Nat) (pv ws : Nat → Nat) (d0 : List Nat) (goal : List Nat) (va vb : Value) (wr : World) : Prop :=
  ∃ (a b f : Nat) (d : List Nat), a ≤ n ∧ b = a + 20 ∧ n ≤ a + f ∧ va = .int .i64 a ∧ vb = .int .i64 b ∧ Hid (stI ws n f a d = goal) ∧ Hid (SR w0 wr T g c n N pv ws d0 d)
def StORel (w0 : World) (T g c n N : Nat) (pv ws : Nat → Nat) (d0 : List Nat) (goal : List Nat) (vs : Value) (wr : World) : Prop :=
  ∃ (bs f : Nat) (d : List Nat), 20 ≤ bs ∧ bs ≤ 2000 ∧ n ≤ bs + f ∧ vs = .int .i64 bs ∧ Hid (stO ws n f bs d = goal) ∧ Hid (SR w0 wr T g c n N pv ws d0 d)
def MpRel (w0 : World) (T g c n N : Nat) (pv ws : Nat → Nat) (d0 : List Nat) (bs : Nat) (goal : List Nat) (va vb : Value) (wr : World) : Prop :=
  ∃ (a b f : Nat) (d : List Nat), a ≤ n ∧ b = a + 2 * bs ∧ n + 1 ≤ a + f ∧ va = .int .i64 a ∧ vb = .int .i64 b ∧ Hid (mp ws n bs f a d = goal) ∧ Hid (SR w0 wr T g c n N pv ws d0 d)
set_option maxHeartbeats 1000000 in
theorem stable_any (w0 w : World) (T g c n N : Nat) (pv ws : Nat → Nat) (d0 d : List Nat) (h : SR w0 w T g c n N pv ws d0 d) (hn : n ≤ 1000) :
    Calls Tryd.prog 100 #[.slice (some ⟨g, 0, none⟩) n c, .int .i64 n, CmpV] w fun e w' => e = .returned (.tuple #[]) ∧ SR w0 w' T g c n N pv ws d0 (stableP ws n d) := by
  have H := Lib.hid h
  clear h
  have HG : Hid (stO ws n n 20 (stI ws n n 0 d) = stableP ws n d) := rfl
  generalize stableP ws n d = goal at *
  generalize hg1 : stI ws n n 0 d = g1 at *
  have HG1 := Lib.hid hg1
  clear hg1
  go_enter Tryd.func100, Tryd.ntmps100
  go_wp2_with fail
  go_loopw [7, 8] (fun va vb wr => StIRel w0 T g c n N pv ws d0 g1 va vb wr) (fun va _ _ => n - (intOf va).toNat)
  case atStart => exact ⟨0, 20, n, d, by omega, rfl, by omega, rfl, rfl, HG1, H⟩
  case round =>
    clear H HG1
    obtain ⟨a, b, f, d, q1, q2, q3, rfl, rfl, HE, HS⟩ := hrel
    by_cases hbn : b ≤ n
    · have hd : decide ((b : Int) ≤ (n : Int)) = true := decide_eq_true (by omega)
      obtain ⟨f, rfl⟩ : ∃ k, f = k + 1 := ⟨f - 1, by omega⟩
      have hE := HE.out
      rw [stI, ← q2, if_pos hbn] at hE
      have HE2 := Lib.hid hE
      clear hE HE
      have q4 : a ≤ b ∧ n ≤ b + f := by omega
      have Q2 := Lib.hid q2
      clear q2
      go_wp2_with fail
      refine (insertion_any w0 wr T g c n N pv ws d0 d a b HS.out hbn q4.1 hn).mono ?_
      rintro e w1 ⟨rfl, hS⟩
      have HS2 := Lib.hid hS
      clear hS HS
      obtain ⟨b2, hb2⟩ : ∃ x, x = b + 20 := ⟨_, rfl⟩
      have eb2 : (b : Int) + 20 = (b2 : Int) := by omega
      have HB2 := Lib.hid hb2
      clear hb2
      go_wp2_with fail
      go_roundw
      case rel => exact ⟨b, b2, f, _, by omega, HB2.out, q4.2, rfl, by go_num, HE2, HS2⟩
      case measure => have := Q2.out; simp [intOf]; omega
    · have hd : decide ((b : Int) ≤ (n : Int)) = false := decide_eq_false (by omega)
      have HE2 : Hid (ins ws a n d = g1) := by
        have hE := HE.out
        cases f with
        | zero => exact hE
        | succ f => rw [stI, ← q2, if_neg hbn] at hE; exact hE
      clear HE
      go_wp2_with fail
      refine (insertion_any w0 wr T g c n N pv ws d0 d a n HS.out (Nat.le_refl _) q1 hn).mono ?_
      rintro e w1 ⟨rfl, hS⟩
      rw [HE2.out] at hS
      have HS2 := Lib.hid hS
      clear hS HS q1 q2 q3 hbn hd HE2
      go_wp2_with fail
      go_loopw [6] (fun vs wr => StORel w0 T g c n N pv ws d0 goal vs wr) (fun vs _ => n - (intOf vs).toNat)
      case atStart => exact ⟨20, n, g1, by omega, by omega, by omega, rfl, HG, HS2⟩
      case round =>
        clear HG HS2
        obtain ⟨bs, f, d, q1, q2, q3, rfl, HE, HS⟩ := hrel
        by_cases hbn : bs < n
        · have hd : decide ((bs : Int) < (n : Int)) = true := decide_eq_true (by omega)
          obtain ⟨f, rfl⟩ : ∃ k, f = k + 1 := ⟨f - 1, by omega⟩
          obtain ⟨b2, hb2⟩ : ∃ x, x = 2 * bs := ⟨_, rfl⟩
          have eb2 : (2 : Int) * (bs : Int) = (b2 : Int) := by omega
          have eb3 : (bs : Int) * 2 = (b2 : Int) := by omega
          have hE := HE.out
          rw [stO, if_pos hbn, ← hb2] at hE
          generalize hmq : mp ws n bs (n + 1) 0 d = mq at *
          have HMQ := Lib.hid hmq
          have HE2 := Lib.hid hE
          have HB2 := Lib.hid hb2
          clear hE HE hmq hb2
          go_wp2_with fail
          go_loopw [7, 8] (fun va vb wr => MpRel w0 T g c n N pv ws d0 bs mq va vb wr) (fun va _ _ => n - (intOf va).toNat)
          case atStart => exact ⟨0, b2, n + 1, d, by omega, by have := HB2.out; omega, by omega, rfl, rfl, HMQ, HS⟩
          case round =>
            clear HMQ HS
            obtain ⟨a, b, f2, d, p1, p2, p3, rfl, rfl, HE, HS⟩ := hrel
            obtain ⟨f2, rfl⟩ : ∃ k, f2 = k + 1 := ⟨f2 - 1, by omega⟩
            obtain ⟨m, hm⟩ : ∃ x, x = a + bs := ⟨_, rfl⟩
            have em : (a : Int) + (bs : Int) = (m : Int) := by omega
            have hE := HE.out
            rw [mp, ← p2, ← hm] at hE
            by_cases hb : b ≤ n
            · have hdb : decide ((b : Int) ≤ (n : Int)) = true := decide_eq_true (by omega)
              rw [if_pos hb] at hE
              have HE3 := Lib.hid hE
              have p4 : a < m ∧ m < b ∧ n + 1 ≤ b + f2 ∧ a < b := by omega
              obtain ⟨p4, p5, p6, p7⟩ := p4
              have P2 := Lib.hid p2
              clear hE HE hm p2
              go_wp2_with fail
              refine (sym_any ws n w0 wr T g c n N pv d0 d a m b HS.out p4 p5 hb hn (by omega)).mono ?_
              rintro e w1 ⟨rfl, hS⟩
              have HS2 := Lib.hid hS
              clear hS HS
              obtain ⟨b4, hb4⟩ : ∃ x, x = b + b2 := ⟨_, rfl⟩
              have eb4 : (b : Int) + (b2 : Int) = (b4 : Int) := by omega
              have HB4 := Lib.hid hb4
              have hb4b : b4 ≤ 10000 := by have := HB2.out; omega
              clear hb4
              go_wp2_with fail
              go_roundw
              case rel => exact ⟨b, b4, f2, _, by omega, by have := HB4.out; have := HB2.out; omega, p6, rfl, by go_num, HE3, HS2⟩
              case measure => simp [intOf]; omega
            · have hdb : decide ((b : Int) ≤ (n : Int)) = false := decide_eq_false (by omega)
              rw [if_neg hb] at hE
              by_cases hmn : m < n
              · have hdm : decide ((m : Int) < (n : Int)) = true := decide_eq_true (by omega)
                rw [if_pos hmn] at hE
                have HE3 := Lib.hid hE
                have p4 : a < m := by omega
                clear hE HE hm p2
                go_wp2_with fail
                refine (sym_any ws n w0 wr T g c n N pv d0 d a m n HS.out p4 hmn (Nat.le_refl _) hn (by omega)).mono ?_
                rintro e w1 ⟨rfl, hS⟩
                rw [HE3.out] at hS
                have HS2 := Lib.hid hS
                clear hS HS
                go_wp2_with fail
                go_roundw
                case rel => exact ⟨b2, f, mq, by have := HB2.out; omega, by have := HB2.out; omega, by have := HB2.out; omega, by go_num, HE2, HS2⟩
                case measure => have := HB2.out; simp [intOf]; omega
              · have hdm : decide ((m : Int) < (n : Int)) = false := decide_eq_false (by omega)
                rw [if_neg hmn] at hE
                have HS2 : Hid (SR w0 wr T g c n N pv ws d0 mq) := by rw [← hE]; exact HS
                clear hE HE hm p2 HS
                go_wp2_with fail
                go_roundw
                case rel => exact ⟨b2, f, mq, by have := HB2.out; omega, by have := HB2.out; omega, by have := HB2.out; omega, by go_num, HE2, HS2⟩
                case measure => have := HB2.out; simp [intOf]; omega
        · have hd : decide ((bs : Int) < (n : Int)) = false := decide_eq_false (by omega)
          have HE2 : Hid (d = goal) := by
            have hE := HE.out
            cases f with
            | zero => exact hE
            | succ f => rw [stO, if_neg hbn] at hE; exact hE
          go_wp2_with fail
          go_end0
          rw [← HE2.out]
          exact ⟨rfl, HS.out⟩
theorem sort_any (w0 w : World) (T g c n N : Nat) (pv ws : Nat → Nat) (d0 d : List Nat) (h : SR w0 w T g c n N pv ws d0 d) (hn : n ≤ 1000) :
    Calls Tryd.prog 95 #[.slice (some ⟨g, 0, none⟩) n c, CmpV] w fun e w' => e = .returned (.tuple #[]) ∧ SR w0 w' T g c n N pv ws d0 (stableP ws n d) := by
  have H := Lib.hid h
  clear h
  go_enter Tryd.func95, Tryd.ntmps95
  go_wp2_with fail
  refine (stable_any w0 w T g c n N pv ws d0 d H.out hn).mono ?_
  rintro e w1 ⟨rfl, hS⟩
  have HS2 := Lib.hid hS
  clear hS H
  go_wp2_with fail
  go_end0
  exact ⟨rfl, HS2.out⟩
end Go.Proofs.YtejgoienkpaabaaDoor

/- Plain: the trees that give the codes' lengths: how they are made, how deep they are, what they write down. -/
namespace Go.Proofs.YtejgoienkpaabaaDoor
inductive HT where
  | leaf (w s : Nat)
  | node (w : Nat) (l r : HT)
  deriving Inhabited
def HT.w : HT → Nat
  | .leaf w _ => w
  | .node w _ _ => w
def HT.deep : HT → Nat → Nat
  | .leaf _ _, at_ => at_
  | .node _ l r, at_ => max (l.deep (at_ + 1)) (r.deep (at_ + 1))
def HT.put : HT → Nat → List Nat → List Nat
  | .leaf _ s, at_, row => row.set s at_
  | .node _ l r, at_, row => r.put (at_ + 1) (l.put (at_ + 1) row)
def HT.syms : HT → List Nat
  | .leaf _ s => [s]
  | .node _ l r => l.syms ++ r.syms
/-- what is taken first: from the leaves or from the made ones -/
def isLeaf (l made : List HT) : Bool := made.isEmpty || (!l.isEmpty && decide ((l.getD 0 default).w ≤ (made.getD 0 default).w))
def least (l made : List HT) : HT × List HT × List HT :=
  if isLeaf l made then (l.getD 0 default, l.drop 1, made) else (made.getD 0 default, l, made.drop 1)
def mergeQ : Nat → List HT → List HT → List HT
  | 0, _, made => made
  | f + 1, l, made =>
    if 1 < l.length + made.length then
      mergeQ f (least (least l made).2.1 (least l made).2.2).2.1
        ((least (least l made).2.1 (least l made).2.2).2.2 ++ [.node ((least l made).1.w + (least (least l made).2.1 (least l made).2.2).1.w) (least l made).1 (least (least l made).2.1 (least l made).2.2).1])
    else made
/-- the symbols of a list of trees -/
def symsL (l : List HT) : List Nat := l.flatMap HT.syms
theorem symsL_cons (t : HT) (l : List HT) : symsL (t :: l) = t.syms ++ symsL l := rfl
theorem symsL_append (a b : List HT) : symsL (a ++ b) = symsL a ++ symsL b := by simp [symsL]
def wsum (l : List HT) : Nat := (l.map HT.w).sum
theorem wsum_append (a b : List HT) : wsum (a ++ b) = wsum a + wsum b := by simp [wsum]
theorem least_len (l made : List HT) (h : 0 < l.length + made.length) : (least l made).2.1.length + (least l made).2.2.length + 1 = l.length + made.length := by
  unfold least isLeaf
  cases l <;> cases made <;> simp at h ⊢
  split <;> simp <;> omega
theorem least_perm (l made : List HT) (h : 0 < l.length + made.length) : (symsL (l ++ made)).Perm ((least l made).1.syms ++ symsL ((least l made).2.1 ++ (least l made).2.2)) := by
  unfold least
  cases l with
  | nil =>
    cases made with
    | nil => simp at h
    | cons m made => simp [isLeaf, symsL]
  | cons a l =>
    cases made with
    | nil => simp [isLeaf, symsL]
    | cons m made =>
      split
      · simp [symsL]
      · simp only [symsL_append, symsL_cons, List.getD_cons_zero, List.drop_succ_cons, List.drop_zero]
        rw [List.perm_iff_count]
        intro x
        simp only [List.count_append]
        omega
theorem least_wsum (l made : List HT) (h : 0 < l.length + made.length) : wsum (l ++ made) = (least l made).1.w + wsum ((least l made).2.1 ++ (least l made).2.2) := by
  unfold least
  cases l with
  | nil =>
    cases made with
    | nil => simp at h
    | cons m made => simp [isLeaf, wsum]
  | cons a l =>
    cases made with
    | nil => simp [isLeaf, wsum]
    | cons m made =>
      split
      · simp [wsum]
        try omega
      · simp [wsum]
        try omega
/-- one tree is left: with the symbols of all -/
theorem mergeQ_one (f : Nat) : ∀ l made : List HT, l.length + made.length ≤ f + 1 → 1 < l.length + made.length ∨ (l = [] ∧ made.length = 1) → ∃ t, mergeQ f l made = [t] ∧ (symsL (l ++ made)).Perm t.syms := by
  induction f with
  | zero =>
    intro l made h1 h2
    rcases h2 with h2 | ⟨rfl, h2⟩
    · omega
    · obtain ⟨t, rfl⟩ := List.length_eq_one_iff.1 h2
      exact ⟨t, rfl, by simp [symsL]⟩
  | succ f ih =>
    intro l made h1 h2
    rw [mergeQ]
    by_cases h : 1 < l.length + made.length
    · rw [if_pos h]
      have l1 := least_len l made (by omega)
      have p1 := least_perm l made (by omega)
      generalize least l made = x at *
      have l2 := least_len x.2.1 x.2.2 (by omega)
      have p2 := least_perm x.2.1 x.2.2 (by omega)
      generalize least x.2.1 x.2.2 = y at *
      obtain ⟨t, e1, e2⟩ := ih y.2.1 (y.2.2 ++ [HT.node (x.1.w + y.1.w) x.1 y.1]) (by simp; omega) (by
        simp only [List.length_append, List.length_singleton]
        by_cases hz : y.2.1.length + y.2.2.length = 0
        · exact .inr ⟨List.eq_nil_of_length_eq_zero (by omega), by omega⟩
        · exact .inl (by omega))
      refine ⟨t, e1, p1.trans (List.Perm.trans ?_ e2)⟩
      rw [List.perm_iff_count]
      intro z
      have p3 := List.perm_iff_count.1 p2 z
      have e4 : symsL [HT.node (x.1.w + y.1.w) x.1 y.1] = x.1.syms ++ y.1.syms := by simp [symsL, HT.syms]
      simp only [symsL_append, List.count_append, e4] at p3 ⊢
      omega
    · rw [if_neg h]
      rcases h2 with h2 | ⟨rfl, h2⟩
      · omega
      · obtain ⟨t, rfl⟩ := List.length_eq_one_iff.1 h2
        exact ⟨t, rfl, by simp [symsL]⟩
/-- the lengths that a tree writes -/
def lens : HT → Nat → List (Nat × Nat)
  | .leaf _ s, at_ => [(s, at_)]
  | .node _ l r, at_ => lens l (at_ + 1) ++ lens r (at_ + 1)
theorem put_length (t : HT) : ∀ at_ row, (t.put at_ row).length = row.length := by
  induction t with
  | leaf w s => intro at_ row; simp [HT.put]
  | node w l r il ir => intro at_ row; rw [HT.put, ir, il]
theorem put_other (t : HT) : ∀ at_ row i, i ∉ t.syms → (t.put at_ row).getD i 0 = row.getD i 0 := by
  induction t with
  | leaf w s =>
    intro at_ row i h
    simp only [HT.syms, List.mem_singleton] at h
    simp only [HT.put, List.getD_eq_getElem?_getD, List.getElem?_set, if_neg (fun (e : s = i) => h e.symm)]
  | node w l r il ir =>
    intro at_ row i h
    simp only [HT.syms, List.mem_append, not_or] at h
    rw [HT.put, ir _ _ _ h.2, il _ _ _ h.1]
/-- at a tree's own symbols the row does not count -/
theorem put_same (t : HT) : ∀ at_ (r1 r2 : List Nat), r1.length = r2.length → ∀ i, (i ∈ t.syms ∨ r1.getD i 0 = r2.getD i 0) → (t.put at_ r1).getD i 0 = (t.put at_ r2).getD i 0 := by
  induction t with
  | leaf w s =>
    intro at_ r1 r2 hl i h
    simp only [HT.put, List.getD_eq_getElem?_getD, List.getElem?_set]
    simp only [HT.syms, List.mem_singleton, List.getD_eq_getElem?_getD] at h
    by_cases hs : s = i
    · subst hs; simp [hl]
    · rw [if_neg hs, if_neg hs]
      rcases h with h | h
      · exact absurd h.symm hs
      · exact h
  | node w l r il ir =>
    intro at_ r1 r2 hl i h
    rw [HT.put, HT.put]
    apply ir _ _ _ (by rw [put_length, put_length, hl])
    simp only [HT.syms, List.mem_append] at h
    by_cases hr : i ∈ r.syms
    · exact .inl hr
    · refine .inr (il _ _ _ hl i ?_)
      rcases h with (h | h) | h
      · exact .inl h
      · exact absurd h hr
      · exact .inr h
theorem tot_set (p : Nat → Nat) (row : List Nat) (s v : Nat) : ∀ N, s < N → N ≤ row.length → tot p (row.set s v) N + p (row.getD s 0) = tot p row N + p v := by
  intro N
  have other : ∀ M, M ≤ s → tot p (row.set s v) M = tot p row M := by
    intro M
    induction M with
    | zero => intro _; rfl
    | succ M ih =>
      intro h
      simp only [tot]
      rw [ih (by omega)]
      have : (row.set s v).getD M 0 = row.getD M 0 := by simp only [List.getD_eq_getElem?_getD, List.getElem?_set, if_neg (show ¬ s = M by omega)]
      rw [this]
  induction N with
  | zero => intro h; omega
  | succ N ih =>
    intro h1 h2
    simp only [tot]
    by_cases hs : s = N
    · subst hs
      have e : (row.set s v).getD s 0 = v := by simp only [List.getD_eq_getElem?_getD, List.getElem?_set, if_pos]; rw [if_pos (by omega)]; rfl
      rw [other s (Nat.le_refl _), e]
      omega
    · have e : (row.set s v).getD N 0 = row.getD N 0 := by simp only [List.getD_eq_getElem?_getD, List.getElem?_set, if_neg hs]
      rw [e]
      have := ih (by omega) (by omega)
      omega
/-- what a tree adds to a sum over the row -/
def addsT (p : Nat → Nat) : HT → Nat → Nat
  | .leaf _ _, at_ => p at_
  | .node _ l r, at_ => addsT p l (at_ + 1) + addsT p r (at_ + 1)
theorem tot_put (p : Nat → Nat) (h0 : p 0 = 0) (t : HT) : ∀ at_ (row : List Nat), t.syms.Nodup → (∀ s ∈ t.syms, s < row.length ∧ row.getD s 0 = 0) → tot p (t.put at_ row) row.length = tot p row row.length + addsT p t at_ := by
  induction t with
  | leaf w s =>
    intro at_ row _ hz
    obtain ⟨h1, h2⟩ := hz s (by simp [HT.syms])
    have := tot_set p row s at_ row.length h1 (Nat.le_refl _)
    rw [h2, h0] at this
    exact this
  | node w l r il ir =>
    intro at_ row hn hz
    simp only [HT.syms, List.nodup_append] at hn
    obtain ⟨n1, n2, n3⟩ := hn
    have a := il (at_ + 1) row n1 (fun s hs => hz s (by simp [HT.syms, hs]))
    have b := ir (at_ + 1) (l.put (at_ + 1) row) n2 (fun s hs => by
      rw [put_length, put_other _ _ _ _ (fun h => n3 s h s hs rfl)]
      exact hz s (by simp [HT.syms, hs]))
    rw [put_length] at b
    rw [HT.put, b, a, addsT]
    omega
theorem deep_ge (t : HT) : ∀ at_, at_ ≤ t.deep at_ := by
  induction t with
  | leaf w s => intro at_; exact Nat.le_refl _
  | node w l r il ir => intro at_; rw [HT.deep]; have := il (at_ + 1); omega
theorem adds_kraft (t : HT) : ∀ at_, 1 ≤ at_ → t.deep at_ ≤ 15 → addsT (fun l => if 1 ≤ l ∧ l ≤ 15 then 2 ^ (15 - l) else 0) t at_ = 2 ^ (15 - at_) := by
  induction t with
  | leaf w s => intro at_ h1 h2; simp only [HT.deep] at h2; simp only [addsT]; rw [if_pos ⟨h1, h2⟩]
  | node w l r il ir =>
    intro at_ h1 h2
    simp only [HT.deep] at h2
    have hg := deep_ge l (at_ + 1)
    simp only [addsT]
    rw [il (at_ + 1) (by omega) (by omega), ir (at_ + 1) (by omega) (by omega)]
    have : 15 - at_ = (15 - (at_ + 1)) + 1 := by omega
    rw [this, Nat.pow_succ]
    omega
theorem adds_pos (t : HT) : ∀ at_, 1 ≤ at_ → t.deep at_ ≤ 15 → 1 ≤ addsT (fun l => if 1 ≤ l ∧ l ≤ 15 then 1 else 0) t at_ := by
  induction t with
  | leaf w s => intro at_ h1 h2; simp only [HT.deep] at h2; simp only [addsT]; rw [if_pos ⟨h1, h2⟩]; exact Nat.le_refl _
  | node w l r il ir =>
    intro at_ h1 h2
    simp only [HT.deep] at h2
    simp only [addsT]
    have := il (at_ + 1) (by omega) (by omega)
    omega
/-- the lengths at a tree's symbols -/
theorem put_range (t : HT) : ∀ at_ (row : List Nat) s, s ∈ t.syms → s < row.length → at_ ≤ (t.put at_ row).getD s 0 ∧ (t.put at_ row).getD s 0 ≤ t.deep at_ := by
  induction t with
  | leaf w s0 =>
    intro at_ row s h hl
    simp only [HT.syms, List.mem_singleton] at h
    subst h
    simp only [HT.put, List.getD_eq_getElem?_getD, List.getElem?_set, if_pos, HT.deep]
    rw [if_pos hl]
    simp
  | node w l r il ir =>
    intro at_ row s h hl
    simp only [HT.syms, List.mem_append] at h
    rw [HT.put, HT.deep]
    by_cases hr : s ∈ r.syms
    · have := ir (at_ + 1) (l.put (at_ + 1) row) s hr (by rw [put_length]; exact hl)
      omega
    · rw [put_other _ _ _ _ hr]
      have := il (at_ + 1) row s (h.resolve_right hr) hl
      omega
end Go.Proofs.YtejgoienkpaabaaDoor
