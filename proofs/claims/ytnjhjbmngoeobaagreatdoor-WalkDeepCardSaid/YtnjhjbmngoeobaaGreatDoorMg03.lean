/- Laws towards WalkDeep: RdxA, DigP, DigA. -/
import Derived.Test.YtnjhjbmngoeobaaGreatDoorMg02
import Derived.Laws.BitsAllLaws
namespace Go.Proofs.YtnjhjbmngoeobaaGreatDoor
open Go.RowKit
set_option maxRecDepth 100000
def Rdx (w : World) (g : Nat) (s : Option Bs) : Prop :=
 ∃ h l a m, Rdr w g h l a m ∧ m < 5 ∧ (match s with | some t => m = 0 ∧ l.drop a = t | none => m ≠ 0)
theorem Rdx.ok {w : World} {g : Nat} {t : Bs} (h : Rdx w g (some t)) : ∃ q l a, Rdr w g q l a 0 ∧ l.drop a = t := by
 obtain ⟨q, l, a, m, h1, _, rfl, h3⟩ := h
 exact ⟨q, l, a, h1, h3⟩
theorem Rdx.bad {w : World} {g : Nat} (h : Rdx w g none) : ∃ q l a m, Rdr w g q l a m ∧ m < 5 ∧ m ≠ 0 := h
theorem Rdx.of {w : World} {g q a : Nat} {l : Bs} (h : Rdr w g q l a 0) : Rdx w g (some (l.drop a)) := ⟨q, l, a, 0, h, by omega, rfl, rfl⟩
theorem Rdx.of_bad {w : World} {g q a m : Nat} {l : Bs} (h : Rdr w g q l a m) (h5 : m < 5) (h0 : m ≠ 0) : Rdx w g none := ⟨q, l, a, m, h, h5, h0⟩
theorem Rdx.keep {w w' : World} {g : Nat} {s : Option Bs} (h : Rdx w g s) (hb : w.grownBy w' none) : Rdx w' g s := by
 obtain ⟨q, l, a, m, h1, h2, h3⟩ := h
 exact ⟨q, l, a, m, h1.gb hb, h2, h3⟩
theorem Rdx.lt {w : World} {g : Nat} {s : Option Bs} (h : Rdx w g s) : g < w.heap.size := by
 obtain ⟨q, l, a, m, h1, _⟩ := h
 exact h1.blk.lt
def RdPost (w : World) (g : Nat) (s : Option Bs) (v : Value) (e : Ending) (w' : World) : Prop := e = .returned v ∧ Rdx w' g s ∧ w.grownBy w' (some g)
theorem rRaw_some {k : Nat} {t : Bs} (h : k ≤ t.length) : rRaw k (some t) = (t.take k, some (t.drop k)) := by simp only [rRaw, if_pos h]
theorem rRaw_short {k : Nat} {t : Bs} (h : ¬ k ≤ t.length) : rRaw k (some t) = ([], none) := by simp only [rRaw, if_neg h]
theorem Rdr.sl {w : World} {g q a m k : Nat} {l : Bs} (h : Rdr w g q l a m) (o : Nat) (ho : 0 < k → o = a) : Sl w (some ⟨q, o, none⟩) ((l.drop a).take k) := by
 by_cases h0 : (l.drop a).take k = []
 · exact .inl h0
 · refine .inr ⟨q, o, rfl, h.row.lt, fun j hj => ?_⟩
   rw [List.length_take, List.length_drop] at hj
   have := ho (by omega)
   subst this
   rw [U_cell h.row, List.getD_eq_getElem?_getD, List.getElem?_take, if_pos (by omega), List.getElem?_drop, List.getElem?_eq_getElem (by omega)]
   rfl
def NxPost (w : World) (g k : Nat) (s : Option Bs) (e : Ending) (w' : World) : Prop :=
 ∃ A n c, e = .returned (.slice A n c) ∧ n = (rRaw k s).1.length ∧ Sl w' A (rRaw k s).1 ∧ Rdx w' g (rRaw k s).2 ∧ w.grownBy w' (some g)
theorem rnext_any (g k : Nat) (s : Option Bs) (w : World) (h : Rdx w g s) :
 Calls Tryz.prog 75 #[.pointer (some ⟨g, 0, none⟩), .int .i64 k] w (NxPost w g k s) := by
 cases s with
 | none =>
   obtain ⟨q, l, a, m, h1, h2, h3⟩ := h.bad
   refine (next_met g q l a m k w h1 h3).mono ?_
   rintro e w' ⟨rfl, rfl⟩
   exact ⟨none, 0, 0, rfl, rfl, .inl rfl, h, gb_refl _ _⟩
 | some t =>
   obtain ⟨q, l, a, h1, rfl⟩ := h.ok
   by_cases hk : k ≤ (l.drop a).length
   · have hk2 : a + k ≤ l.length := by have := h1.hat; rw [List.length_drop] at hk; omega
     refine (next_ok g q l a k w h1 hk2).mono ?_
     rintro e w' ⟨o, c, rfl, ho, h4, h5⟩
     have h6 := Rdx.of h4
     rw [← List.drop_drop] at h6
     unfold NxPost
     rw [rRaw_some hk]
     have h8 : Sl w' (some ⟨q, o, none⟩) ((l.drop a).take k) := by
      by_cases h0 : (l.drop a).take k = []
      · exact .inl h0
      · refine .inr ⟨q, o, rfl, h4.row.lt, fun j hj => ?_⟩
        rw [List.length_take, List.length_drop] at hj
        have := ho (by omega)
        subst this
        rw [U_cell h4.row, List.getD_eq_getElem?_getD, List.getElem?_take, if_pos (by omega), List.getElem?_drop, List.getElem?_eq_getElem (by omega)]
        rfl
     exact ⟨_, _, c, rfl, by rw [List.length_take]; omega, h8, h6, h5⟩
   · have hk2 : (l.length : Int) - a < k := by have := h1.hat; rw [List.length_drop] at hk; omega
     refine (next_short g q l a k w h1 hk2).mono ?_
     rintro e w' ⟨rfl, h4, h5⟩
     unfold NxPost
     rw [rRaw_short hk]
     exact ⟨none, 0, 0, rfl, rfl, .inl rfl, Rdx.of_bad h4 (by omega) (by omega), h5⟩
theorem beNat_append (x : Bs) (b : UInt8) : beNat (x ++ [b]) = beNat x * 256 + b.toNat := by simp [beNat]
theorem beNat_lt : ∀ (k : Nat) (x : Bs), x.length = k → beNat x < 256 ^ k
 | 0, x, h => by
   rw [List.eq_nil_of_length_eq_zero h]
   decide
 | k + 1, x, h => by
   have hne : x ≠ [] := by intro e; rw [e] at h; simp at h
   rw [← List.dropLast_concat_getLast hne, beNat_append]
   have h1 := beNat_lt k x.dropLast (by simp [h])
   have h2 := (x.getLast hne).toNat_lt
   rw [Nat.pow_succ]
   omega
def FixRel (w : World) (n : Nat) (x : Bs) (v5 v12 : Value) (wr : World) : Prop :=
 ∃ i v : Nat, i ≤ n ∧ v12 = .int .i64 (i : Int) ∧ v5 = .int .u64 (v : Int) ∧ Hid (v = beNat (x.take i)) ∧ Hid (wr = w)
set_option maxHeartbeats 1000000 in
theorem rfixed_any (g k : Nat) (s : Option Bs) (w : World) (h : Rdx w g s) (hk : k ≤ 8) :
 Calls Tryz.prog 73 #[.pointer (some ⟨g, 0, none⟩), .int .i64 k] w (RdPost w g (rRaw k s).2 (.int .u64 (beNat (rRaw k s).1 : Int))) := by
 have HN := Lib.hid (rnext_any g k s w h)
 have hl8 : (rRaw k s).1.length ≤ 8 := by
  cases s with
  | none => simp [rRaw]
  | some t =>
    by_cases hk2 : k ≤ t.length
    · rw [rRaw_some hk2]
      simp
      omega
    · rw [rRaw_short hk2]
      simp
 clear h hk
 generalize hr : rRaw k s = r at *
 unfold Hid NxPost at HN
 rw [hr] at HN
 have HN := Lib.hid HN
 clear hr
 obtain ⟨x, s2⟩ := r
 simp only at hl8 HN ⊢
 go_enter Tryz.func73, Tryz.ntmps73
 go_wp2_with fail
 refine HN.out.mono ?_
 rintro e w1 ⟨A, n, c, rfl, hn, hs, h1, h2⟩
 have HL := Lib.hid hn
 have HS := Lib.hid hs
 have hn8 : n ≤ 8 := by rw [hn]; exact hl8
 have HE := Lib.hid h1
 have HG := Lib.hid h2
 clear HN hn hs h1 h2 hl8
 go_wp2_with fail
 go_loopw [5, 12] (fun v5 v12 wr => FixRel w1 n x v5 v12 wr) (fun _ v12 _ => n - (intOf v12).toNat)
 case atStart => exact ⟨0, 0, Nat.zero_le _, rfl, rfl, rfl, rfl⟩
 case round =>
  obtain ⟨i, v, hi, rfl, rfl, HV, HW⟩ := hrel
  obtain rfl : wr = w1 := HW.out
  by_cases hlt : i < n
  · have hltd : decide (i < n) = true := decide_eq_true hlt
    have hxl : i < x.length := by have := HL.out; omega
    have hv := beNat_lt i (x.take i) (by rw [List.length_take]; omega)
    rw [← HV.out] at hv
    have hv7 : v < 72057594037927936 := Nat.lt_of_lt_of_le hv (by
     have : (256 : Nat) ^ i ≤ 256 ^ 7 := Nat.pow_le_pow_right (by decide) (by omega)
     exact this)
    obtain ⟨b, hb⟩ : ∃ b, b = x[i] := ⟨_, rfl⟩
    have hs := HS.out
    rcases hs with rfl | ⟨q, o, rfl, hq, hc⟩
    · simp at hxl
    have hci := hc i hxl
    rw [List.getD_eq_getElem?_getD, List.getElem?_eq_getElem hxl] at hci
    have hci' : wr.cell? ⟨q, o + i, none⟩ = some (.int .u8 (b.toNat : Int)) := by rw [hb]; exact hci
    have hb8 := b.toNat_lt
    have HVN : Hid (v * 256 + b.toNat = beNat (x.take (i + 1))) := by
     show _ = _
     rw [List.take_add_one, List.getElem?_eq_getElem hxl, ← hb]
     show _ = beNat (x.take i ++ [b])
     rw [beNat_append, ← HV.out]
    generalize b.toNat = bn at *
    have e1 : IntKind.u64.wrap ((v : Int) * 256) = ((v * 256 : Nat) : Int) := by rw [wraps_u64 _ (by omega) (by omega)]; simp
    have e2 : IntKind.u64.wrap (bn : Int) = (bn : Int) := wraps_u64 _ (by omega) (by omega)
    have e3 : bits .or .u64 ((v * 256 : Nat) : Int) (bn : Int) = ((v * 256 + bn : Nat) : Int) := by
     rw [or_u64 _ _ (by omega) (by omega)]
     have h := Nat.two_pow_add_eq_or_of_lt (i := 8) (b := bn) (by omega) v
     rw [Nat.mul_comm v, show (256 : Nat) = 2 ^ 8 from rfl, ← h]
    obtain ⟨y, hy⟩ : ∃ y, y = v * 256 := ⟨_, rfl⟩
    rw [← hy] at e1 e3
    obtain ⟨z, hz⟩ : ∃ z, z = y + bn := ⟨_, rfl⟩
    rw [← hz] at e3
    have HZ : Hid (z = beNat (x.take (i + 1))) := by show _ = _; rw [hz, hy]; exact HVN.out
    clear hc hci hb hv hxl HVN HV hy hz
    go_wp2_with fail
    refine ⟨⟨i + 1, z, by omega, by go_num, rfl, HZ, rfl⟩, by simp [intOf]; omega⟩
  · have hin : i = n := by omega
    have hltd : decide (i < n) = false := decide_eq_false (by omega)
    have HF : Hid (v = beNat x) := by
     have h1 := HV.out
     rw [List.take_of_length_le (by have := HL.out; omega)] at h1
     exact h1
    clear hi hlt HV HW HL HS
    go_wp2_with fail
    go_ret
    exact ⟨ret_int (by rw [HF.out]), HE.out, HG.out⟩
theorem rU8_raw (s : Option Bs) : (rU8 s).2 = (rRaw 1 s).2 ∧ (rU8 s).1.toNat = beNat (rRaw 1 s).1 := by
 cases s with
 | none => exact ⟨rfl, rfl⟩
 | some t =>
   cases t with
   | nil => exact ⟨rfl, rfl⟩
   | cons b t =>
     rw [rRaw_some (by simp)]
     exact ⟨rfl, by simp [rU8, beNat]⟩
theorem ru8_any (g : Nat) (s : Option Bs) (w : World) (h : Rdx w g s) :
 Calls Tryz.prog 58 #[.pointer (some ⟨g, 0, none⟩)] w (RdPost w g (rU8 s).2 (.int .u8 ((rU8 s).1.toNat : Int))) := by
 have HN := Lib.hid (rfixed_any g 1 s w h (by omega))
 obtain ⟨e1, e2⟩ := rU8_raw s
 have hlt : (rU8 s).1.toNat < 256 := (rU8 s).1.toNat_lt
 rw [e1]
 rw [e2] at hlt ⊢
 clear e1 e2 h
 generalize beNat (rRaw 1 s).1 = x at *
 go_enter Tryz.func58, Tryz.ntmps58
 go_wp2_with fail
 refine HN.out.mono ?_
 rintro e w1 ⟨rfl, h1, h2⟩
 have HE := Lib.hid h1
 have HG := Lib.hid h2
 have ew : IntKind.u8.wrap (x : Int) = (x : Int) := by rw [IntKind.wrap_u8]; omega
 clear h1 h2 HN
 go_wp2_with fail
 go_ret
 exact ⟨rfl, HE.out, HG.out⟩
theorem ru64_any (g : Nat) (s : Option Bs) (w : World) (h : Rdx w g s) :
 Calls Tryz.prog 80 #[.pointer (some ⟨g, 0, none⟩)] w (RdPost w g (rU64 s).2 (.int .u64 ((rU64 s).1 : Int))) := by
 have HN := Lib.hid (rfixed_any g 8 s w h (by omega))
 clear h
 unfold rU64
 generalize beNat (rRaw 8 s).1 = x at *
 go_enter Tryz.func80, Tryz.ntmps80
 go_wp2_with fail
 refine HN.out.mono ?_
 rintro e w1 ⟨rfl, h1, h2⟩
 have HE := Lib.hid h1
 have HG := Lib.hid h2
 clear h1 h2 HN
 go_wp2_with fail
 go_ret
 exact ⟨rfl, HE.out, HG.out⟩
theorem rnum_any (g most : Nat) (s : Option Bs) (w : World) (h : Rdx w g s) :
 Calls Tryz.prog 76 #[.pointer (some ⟨g, 0, none⟩), .int .u64 most] w (RdPost w g (rNum most s).2 (.int .u64 ((rNum most s).1 : Int))) := by
 cases s with
 | none =>
   obtain ⟨q, l, a, m, h1, h2, h3⟩ := h.bad
   refine (var_met g q l a m most w h1 h3).mono ?_
   rintro e w' ⟨rfl, rfl⟩
   exact ⟨rfl, h, gb_refl _ _⟩
 | some t =>
   obtain ⟨q, l, a, h1, rfl⟩ := h.ok
   refine (var_any g q l a most w h1).mono ?_
   rintro e w' ⟨hg, ⟨n, z, hn, hm, rfl, h4⟩ | ⟨hbad, m', h5, h6, rfl, h4⟩⟩
   · have h7 := Rdx.of h4
     rw [← List.drop_drop] at h7
     have e : rNum most (some (l.drop a)) = (n, some ((l.drop a).drop z)) := by
      unfold rNum
      simp only [hn, if_pos hm]
     rw [e]
     exact ⟨rfl, h7, hg⟩
   · have h7 := Rdx.of_bad h4 h6 (by omega)
     have e : rNum most (some (l.drop a)) = (0, none) := by
      unfold rNum
      rcases hbad with hb | ⟨n, z, hb, hc⟩
      · simp only [hb]
      · simp only [hb, if_neg (show ¬ n ≤ most by omega)]
     rw [e]
     exact ⟨rfl, h7, hg⟩
end Go.Proofs.YtnjhjbmngoeobaaGreatDoor
namespace Go.Proofs.YtnjhjbmngoeobaaGreatDoor.Dg
set_option maxRecDepth 20000
def rotr (x n : Nat) : Nat := (x >>> n) ||| ((x <<< (32 - n)) % 4294967296)
def sm0 (x : Nat) : Nat := rotr x 7 ^^^ rotr x 18 ^^^ (x >>> 3)
def sm1 (x : Nat) : Nat := rotr x 17 ^^^ rotr x 19 ^^^ (x >>> 10)
def bg0 (x : Nat) : Nat := rotr x 2 ^^^ rotr x 13 ^^^ rotr x 22
def bg1 (x : Nat) : Nat := rotr x 6 ^^^ rotr x 11 ^^^ rotr x 25
def chs (e f g : Nat) : Nat := (e &&& f) ^^^ ((4294967295 - e) &&& g)
def maj (a b c : Nat) : Nat := (a &&& b) ^^^ (a &&& c) ^^^ (b &&& c)
def beginW : List Nat := [0x6a09e667, 0xbb67ae85, 0x3c6ef372, 0xa54ff53a, 0x510e527f, 0x9b05688c, 0x1f83d9ab, 0x5be0cd19]
def roundW : List Nat := [
 0x428a2f98, 0x71374491, 0xb5c0fbcf, 0xe9b5dba5, 0x3956c25b, 0x59f111f1, 0x923f82a4, 0xab1c5ed5,
 0xd807aa98, 0x12835b01, 0x243185be, 0x550c7dc3, 0x72be5d74, 0x80deb1fe, 0x9bdc06a7, 0xc19bf174,
 0xe49b69c1, 0xefbe4786, 0x0fc19dc6, 0x240ca1cc, 0x2de92c6f, 0x4a7484aa, 0x5cb0a9dc, 0x76f988da,
 0x983e5152, 0xa831c66d, 0xb00327c8, 0xbf597fc7, 0xc6e00bf3, 0xd5a79147, 0x06ca6351, 0x14292967,
 0x27b70a85, 0x2e1b2138, 0x4d2c6dfc, 0x53380d13, 0x650a7354, 0x766a0abb, 0x81c2c92e, 0x92722c85,
 0xa2bfe8a1, 0xa81a664b, 0xc24b8b70, 0xc76c51a3, 0xd192e819, 0xd6990624, 0xf40e3585, 0x106aa070,
 0x19a4c116, 0x1e376c08, 0x2748774c, 0x34b0bcb5, 0x391c0cb3, 0x4ed8aa4a, 0x5b9cca4f, 0x682e6ff3,
 0x748f82ee, 0x78a5636f, 0x84c87814, 0x8cc70208, 0x90befffa, 0xa4506ceb, 0xbef9a3f7, 0xc67178f2]
def nxtW (w : List Nat) (t : Nat) : Nat := (sm1 (w.getD (t - 2) 0) + w.getD (t - 7) 0 + sm0 (w.getD (t - 15) 0) + w.getD (t - 16) 0) % 4294967296
def schd (w : List Nat) : Nat → List Nat
 | 0 => w
 | k + 1 => schd w k ++ [nxtW (schd w k) (16 + k)]
def word (b : List UInt8) (t : Nat) : Nat := (b.getD (4 * t) 0).toNat * 16777216 + (b.getD (4 * t + 1) 0).toNat * 65536 + (b.getD (4 * t + 2) 0).toNat * 256 + (b.getD (4 * t + 3) 0).toNat
def words16 (b : List UInt8) : List Nat := (List.range 16).map (word b)
structure St where
 a : Nat
 b : Nat
 c : Nat
 d : Nat
 e : Nat
 f : Nat
 g : Nat
 h : Nat deriving DecidableEq
def St.list (s : St) : List Nat := [s.a, s.b, s.c, s.d, s.e, s.f, s.g, s.h]
def rndP (s : St) (k w : Nat) : Nat := (s.h + bg1 s.e + chs s.e s.f s.g + k + w) % 4294967296
def rndQ (s : St) : Nat := (bg0 s.a + maj s.a s.b s.c) % 4294967296
def rnd (s : St) (k w : Nat) : St := ⟨(rndP s k w + rndQ s) % 4294967296, s.a, s.b, s.c, (s.d + rndP s k w) % 4294967296, s.e, s.f, s.g⟩
def rnds (s : St) (w : List Nat) : Nat → St
 | 0 => s
 | t + 1 => rnd (rnds s w t) (roundW.getD t 0) (w.getD t 0)
def addS (s v : St) : St := ⟨(s.a + v.a) % 4294967296, (s.b + v.b) % 4294967296, (s.c + v.c) % 4294967296, (s.d + v.d) % 4294967296, (s.e + v.e) % 4294967296, (s.f + v.f) % 4294967296, (s.g + v.g) % 4294967296, (s.h + v.h) % 4294967296⟩
def comp (s : St) (b : List UInt8) : St := addS s (rnds s (schd (words16 b) 48) 64)
def st0 : St := ⟨0x6a09e667, 0xbb67ae85, 0x3c6ef372, 0xa54ff53a, 0x510e527f, 0x9b05688c, 0x1f83d9ab, 0x5be0cd19⟩
def blks (s : St) (b : List UInt8) : Nat → St
 | 0 => s
 | n + 1 => comp (blks s b n) ((b.drop (64 * n)).take 64)
def padz (n : Nat) : Nat := (55 + 64 - n % 64) % 64
def be8 (n : Nat) : List UInt8 := [UInt8.ofNat (n / 72057594037927936), UInt8.ofNat (n / 281474976710656), UInt8.ofNat (n / 1099511627776), UInt8.ofNat (n / 4294967296), UInt8.ofNat (n / 16777216), UInt8.ofNat (n / 65536), UInt8.ofNat (n / 256), UInt8.ofNat n]
def padded (b : List UInt8) : List UInt8 := b ++ (0x80 :: (List.replicate (padz b.length) 0 ++ be8 (8 * b.length)))
def be4 (n : Nat) : List UInt8 := [UInt8.ofNat (n / 16777216), UInt8.ofNat (n / 65536), UInt8.ofNat (n / 256), UInt8.ofNat n]
def outS (s : St) : List UInt8 := be4 s.a ++ be4 s.b ++ be4 s.c ++ be4 s.d ++ be4 s.e ++ be4 s.f ++ be4 s.g ++ be4 s.h
def sha (b : List UInt8) : List UInt8 := outS (blks st0 (padded b) ((padded b).length / 64))
theorem sha_length (b : List UInt8) : (sha b).length = 32 := rfl
theorem padz_eq (n : Nat) : (n + 1 + padz n) % 64 = 56 ∧ padz n < 64 := by unfold padz; omega
theorem xor_lt (a b : Nat) (ha : a < 4294967296) (hb : b < 4294967296) : a ^^^ b < 4294967296 := Nat.xor_lt_two_pow (n := 32) ha hb
theorem or_lt (a b : Nat) (ha : a < 4294967296) (hb : b < 4294967296) : a ||| b < 4294967296 := Nat.or_lt_two_pow (n := 32) ha hb
theorem and_lt (a b : Nat) (hb : b < 4294967296) : a &&& b < 4294967296 := Nat.and_lt_two_pow (n := 32) a hb
theorem shr_lt (x n : Nat) (h : x < 4294967296) : x >>> n < 4294967296 := by
 rw [Nat.shiftRight_eq_div_pow]
 exact Nat.lt_of_le_of_lt (Nat.div_le_self _ _) h
theorem rotr_lt (x n : Nat) (h : x < 4294967296) : rotr x n < 4294967296 := or_lt _ _ (shr_lt x n h) (Nat.mod_lt _ (by decide))
theorem sm0_lt (x : Nat) (h : x < 4294967296) : sm0 x < 4294967296 := xor_lt _ _ (xor_lt _ _ (rotr_lt x 7 h) (rotr_lt x 18 h)) (shr_lt x 3 h)
theorem sm1_lt (x : Nat) (h : x < 4294967296) : sm1 x < 4294967296 := xor_lt _ _ (xor_lt _ _ (rotr_lt x 17 h) (rotr_lt x 19 h)) (shr_lt x 10 h)
theorem not_xor (e : Nat) (h : e < 4294967296) : 4294967295 ^^^ e = 4294967295 - e := by
 have h32 : (4294967295 : Nat) = 2 ^ 32 - 1 := by decide
 have h33 : (4294967296 : Nat) = 2 ^ 32 := by decide
 rw [h33] at h
 apply Nat.eq_of_testBit_eq
 intro i
 rw [h32]
 have : 2 ^ 32 - 1 - e = 2 ^ 32 - (e + 1) := by omega
 rw [this, Nat.testBit_two_pow_sub_succ h, Nat.testBit_xor, Nat.testBit_two_pow_sub_one]
 by_cases hi : i < 32
 · simp [hi]
 · have : e.testBit i = false := Nat.testBit_lt_two_pow (Nat.lt_of_lt_of_le h (Nat.pow_le_pow_right (by decide) (by omega)))
   simp [hi, this]
theorem blks_congr (s : St) (b c : List UInt8) (n : Nat) (hb : 64 * n ≤ b.length) : blks s (b ++ c) n = blks s b n := by
 induction n with
 | zero => rfl
 | succ n ih =>
   unfold blks
   rw [ih (by omega), List.drop_append_of_le_length (by omega), List.take_append_of_le_length (by rw [List.length_drop]; omega)]
end Go.Proofs.YtnjhjbmngoeobaaGreatDoor.Dg
namespace Go.Proofs.YtnjhjbmngoeobaaGreatDoor
open Go.RowKit
set_option maxRecDepth 100000
open Dg in
theorem turn_val (x n : Nat) (hx : x < 4294967296) :
 bits .or .u32 ((x : Int) / 2 ^ n) ((x : Int) * 2 ^ (32 - n) % 4294967296) = ((rotr x n : Nat) : Int) := by
 have e1 : (x : Int) / 2 ^ n = ((x >>> n : Nat) : Int) := by rw [Nat.shiftRight_eq_div_pow]; simp
 have e2 : (x : Int) * 2 ^ (32 - n) % 4294967296 = (((x <<< (32 - n)) % 4294967296 : Nat) : Int) := by
  rw [Nat.shiftLeft_eq]
  simp
 rw [e1, e2, u32_or_nat _ _ (shr_lt x n hx) (Nat.mod_lt _ (by decide))]
 rfl
theorem turn_any (x n : Nat) (w : World) (hx : x < 4294967296) (h1 : 1 ≤ n) (hn : n ≤ 31) :
 Calls Tryz.prog 92 #[.int .u32 x, .int .i64 n] w fun e w' => e = .returned (.int .u32 ((Dg.rotr x n : Nat) : Int)) ∧ ∃ k, w' = w.drewN k := by
 have hv := turn_val x n hx
 obtain ⟨m, hm⟩ : ∃ m, m = 32 - n := ⟨_, rfl⟩
 have em : (32 : Int) - (n : Int) = (m : Int) := by omega
 have ew : IntKind.i64.wrap (m : Int) = (m : Int) := wraps_i64 _ (by omega) (by omega)
 have hm2 : m ≤ 31 := by omega
 rw [← hm] at hv
 clear hm
 go_enter Tryz.func92, Tryz.ntmps92
 go_wp2_with fail
 go_quiet (fail)
 go_wp2_with fail
 go_ret
 exact ⟨rfl, _, rfl⟩
theorem turn_c (x : Nat) (k : Int) (n : Nat) (hk : k = n) (w : World) (hx : x < 4294967296) (h1 : 1 ≤ n) (hn : n ≤ 31) :
 Calls Tryz.prog 92 #[.int .u32 x, .int .i64 k] w fun e w' => e = .returned (.int .u32 ((Dg.rotr x n : Nat) : Int)) ∧ ∃ k, w' = w.drewN k := by
 subst hk
 exact turn_any x n w hx h1 hn
end Go.Proofs.YtnjhjbmngoeobaaGreatDoor
