/- Whole numbers below 253 as floats of 64 bits: what is written is read again; sums and products are exact. Conditions: those in the theorems. -/
import Derived.Test.YtdgnnacppiaogaaGreatB8
import Derived.Laws.FloatArith
set_option linter.unusedVariables false
set_option linter.unusedSimpArgs false
namespace Go.Gd
open Ieee
def ExD (d : Datum) (z : Int) : Prop := ∃ s m p, ∃ N : Nat, d = .number s m p ∧ -(N : Int) ≤ p ∧ m * 2 ^ (p + N).toNat = z.natAbs * 2 ^ N ∧ (z < 0 → s = true) ∧ (0 < z → s = false)
def RdD (d : Datum) (z : Int) : Prop := ∃ s m p, d = .number s m p ∧ (z = 0 → m = 0) ∧ (z ≠ 0 → -52 ≤ p ∧ p ≤ 0 ∧ m = z.natAbs * 2 ^ (-p).toNat) ∧ (z < 0 → s = true) ∧ (0 < z → s = false)
def IsF (b : Nat) (z : Int) : Prop := RdD (FloatKind.f64.decode b) z
theorem cut_zero (neg : Bool) (n : Nat) : Toward.even.cut neg n 0 = n := by
  unfold Toward.cut
  simp [Nat.mod_one]
theorem cut_exact (neg : Bool) (k d : Nat) (hd : d ≤ (k * 2 ^ d).log2 + 2) : Toward.even.cut neg (k * 2 ^ d) d = k := by
  unfold Toward.cut
  have hp : 0 < 2 ^ d := Nat.two_pow_pos d
  have hm : min d ((k * 2 ^ d).log2 + 2) = d := Nat.min_eq_left hd
  simp only [hm, Nat.one_shiftLeft, Nat.mul_mod_left, Nat.mul_zero, Nat.mul_div_cancel _ hp]
  have h1 : decide (2 ^ d < 0) = false := by simp
  have h2 : (2 ^ d == 0) = false := by simp
  simp [h2]
theorem log2_bounds {m : Nat} (h : m ≠ 0) : 2 ^ m.log2 ≤ m ∧ m < 2 ^ (m.log2 + 1) := ⟨Nat.log2_self_le h, Nat.lt_log2_self⟩
theorem pow_lt_of {a b : Nat} (h : (2 : Nat) ^ a < 2 ^ b) : a < b := (Nat.pow_lt_pow_iff_right (by decide : 1 < 2)).1 h
theorem read_word (neg : Bool) (u k : Nat) (hu : 1022 ≤ u ∧ u ≤ 1074) (hk : 2 ^ 52 ≤ k ∧ k < 2 ^ 53) : Ieee.double.read (Ieee.double.word neg (u * 2 ^ 52 + k)) = .number neg k ((u : Int) - 1074) := by
  have hb : Ieee.double.binade = 2 ^ 52 := rfl
  have hs : Ieee.double.signWeight = 2 ^ 63 := rfl
  have hi : Ieee.double.infRung = 2047 * 2 ^ 52 := rfl
  have hl : Ieee.double.leastPlace = -1074 := rfl
  obtain ⟨k0, rfl⟩ : ∃ k0, k = 2 ^ 52 + k0 := ⟨k - 2 ^ 52, by omega⟩
  have hk0 : k0 < 2 ^ 52 := by omega
  have hr : u * 2 ^ 52 + (2 ^ 52 + k0) = (u + 1) * 2 ^ 52 + k0 := by omega
  unfold Format.read Format.word
  rw [hs, hb, hi, hl, hr]
  have e1 : (if neg = true then 2 ^ 63 + ((u + 1) * 2 ^ 52 + k0) else (u + 1) * 2 ^ 52 + k0) % 2 ^ 63 = (u + 1) * 2 ^ 52 + k0 := by split <;> omega
  have e2 : ((if neg = true then 2 ^ 63 + ((u + 1) * 2 ^ 52 + k0) else (u + 1) * 2 ^ 52 + k0) / 2 ^ 63 % 2 == 1) = neg := by
    cases neg
    · simp only [Bool.false_eq_true, if_false]
      rw [Nat.div_eq_of_lt (by omega)]; rfl
    · simp only [if_true]
      rw [show (2 ^ 63 + ((u + 1) * 2 ^ 52 + k0)) / 2 ^ 63 = 1 by omega]; rfl
  simp only [e1, e2]
  rw [if_neg (by omega), if_pos (by omega)]
  have e3 : ((u + 1) * 2 ^ 52 + k0) % 2 ^ 52 = k0 := by omega
  have e4 : ((u + 1) * 2 ^ 52 + k0) / 2 ^ 52 = u + 1 := by omega
  rw [e3, e4]
  congr 1
theorem nearest_eq (s : Bool) (m : Nat) (p : Int) (e K : Nat) (hm : m ≠ 0) (hlast : max (p + m.log2 - (52 : Nat)) (-1074) = (e : Int) - 52)
    (hkept : Toward.even.cut s (m <<< (p - ((e : Int) - 52)).toNat) (((e : Int) - 52) - p).toNat = K) (hK : 2 ^ 52 ≤ K ∧ K < 2 ^ 53) (he : e ≤ 52) : Ieee.double.nearest s m p = Ieee.double.word s ((e + 1022) * 2 ^ 52 + K) := by
  have hb : Ieee.double.binade = 2 ^ 52 := rfl
  have hi : Ieee.double.infRung = 2047 * 2 ^ 52 := rfl
  have hl : Ieee.double.leastPlace = -1074 := rfl
  have hf : Ieee.double.fractionBits = 52 := rfl
  unfold Format.nearest
  rw [if_neg hm, hf, hl, hlast]
  dsimp only
  rw [hkept, hb, hi]
  have e1 : ((e : Int) - 52 - -1074).toNat = e + 1022 := by omega
  rw [e1, Nat.min_eq_left (by omega)]
theorem write_read {d : Datum} {z : Int} (h : ExD d z) (hz : z.natAbs < 2 ^ 53) : RdD (Ieee.double.read (Ieee.double.write d)) z := by
  obtain ⟨s, m, p, N, rfl, hp, hv, hn, hpos⟩ := h
  have hs : Ieee.double.signWeight = 2 ^ 63 := rfl
  by_cases h0 : z = 0
  · have hm : m = 0 := by
      subst h0
      have : m * 2 ^ (p + N).toNat = 0 := by rw [hv]; simp
      rcases Nat.mul_eq_zero.1 this with h | h
      · exact h
      · have := Nat.two_pow_pos (p + N).toNat; omega
    subst hm
    have : Ieee.double.write (.number s 0 p) = Ieee.double.word s 0 := rfl
    rw [this]
    refine ⟨s, 0, -1074, ?_, fun _ => rfl, fun h => absurd h0 h, hn, hpos⟩
    cases s <;> rfl
  have hm : m ≠ 0 := by
    rintro rfl
    rw [Nat.zero_mul] at hv
    have : 0 < z.natAbs * 2 ^ N := Nat.mul_pos (by omega) (Nat.two_pow_pos _)
    omega
  obtain ⟨b1, b2⟩ := log2_bounds hm
  obtain ⟨q, hq⟩ : ∃ q : Nat, p + N = q := ⟨(p + N).toNat, by omega⟩
  rw [hq, Int.toNat_natCast] at hv
  have hzp : 1 ≤ z.natAbs := by omega
  have e1 : N ≤ m.log2 + q := by
    have : (2 : Nat) ^ N < 2 ^ (m.log2 + 1 + q) := by
      calc 2 ^ N ≤ z.natAbs * 2 ^ N := Nat.le_mul_of_pos_left _ hzp
        _ = m * 2 ^ q := hv.symm
        _ < 2 ^ (m.log2 + 1) * 2 ^ q := Nat.mul_lt_mul_of_pos_right b2 (Nat.two_pow_pos _)
        _ = 2 ^ (m.log2 + 1 + q) := (Nat.pow_add _ _ _).symm
    have := pow_lt_of this; omega
  have e2 : m.log2 + q < N + 53 := by
    have : (2 : Nat) ^ (m.log2 + q) < 2 ^ (N + 53) := by
      calc 2 ^ (m.log2 + q) = 2 ^ m.log2 * 2 ^ q := Nat.pow_add _ _ _
        _ ≤ m * 2 ^ q := Nat.mul_le_mul_right _ b1
        _ = z.natAbs * 2 ^ N := hv
        _ < 2 ^ 53 * 2 ^ N := Nat.mul_lt_mul_of_pos_right hz (Nat.two_pow_pos _)
        _ = 2 ^ (N + 53) := by rw [← Nat.pow_add, Nat.add_comm]
    exact pow_lt_of this
  obtain ⟨e, he⟩ : ∃ e, m.log2 + q = N + e := ⟨m.log2 + q - N, by omega⟩
  have he52 : e ≤ 52 := by omega
  have hlast : max (p + m.log2 - (52 : Nat)) (-1074) = (e : Int) - 52 := by omega
  have hz1 : 2 ^ e ≤ z.natAbs ∧ z.natAbs < 2 ^ (e + 1) := by
    constructor
    · have : 2 ^ e * 2 ^ N ≤ z.natAbs * 2 ^ N := by
        rw [← hv, ← Nat.pow_add, show e + N = m.log2 + q by omega, Nat.pow_add]
        exact Nat.mul_le_mul_right _ b1
      exact Nat.le_of_mul_le_mul_right this (Nat.two_pow_pos _)
    · have : z.natAbs * 2 ^ N < 2 ^ (e + 1) * 2 ^ N := by
        rw [← hv, ← Nat.pow_add, show e + 1 + N = m.log2 + 1 + q by omega, Nat.pow_add]
        exact Nat.mul_lt_mul_of_pos_right b2 (Nat.two_pow_pos _)
      exact Nat.lt_of_mul_lt_mul_right this
  have hk : 2 ^ 52 ≤ z.natAbs * 2 ^ (52 - e) ∧ z.natAbs * 2 ^ (52 - e) < 2 ^ 53 := by
    constructor
    · calc 2 ^ 52 = 2 ^ e * 2 ^ (52 - e) := by rw [← Nat.pow_add]; congr 1; omega
        _ ≤ _ := Nat.mul_le_mul_right _ hz1.1
    · calc z.natAbs * 2 ^ (52 - e) < 2 ^ (e + 1) * 2 ^ (52 - e) := Nat.mul_lt_mul_of_pos_right hz1.2 (Nat.two_pow_pos _)
        _ = 2 ^ 53 := by rw [← Nat.pow_add]; congr 1; omega
  have hkept : Toward.even.cut s (m <<< (p - ((e : Int) - 52)).toNat) (((e : Int) - 52) - p).toNat = z.natAbs * 2 ^ (52 - e) := by
    rcases Nat.lt_or_ge 52 m.log2 with hc | hc
    ·
      obtain ⟨d, hd⟩ : ∃ d, m.log2 = 52 + d := ⟨m.log2 - 52, by omega⟩
      have hpd : (((e : Int) - 52) - p).toNat = d := by omega
      have hpz : (p - ((e : Int) - 52)).toNat = 0 := by omega
      have hmk : m = z.natAbs * 2 ^ (52 - e) * 2 ^ d := by
        have : m * 2 ^ q = z.natAbs * 2 ^ (52 - e) * 2 ^ d * 2 ^ q := by
          rw [hv, Nat.mul_assoc, Nat.mul_assoc, ← Nat.pow_add, ← Nat.pow_add]
          congr 2; omega
        exact Nat.eq_of_mul_eq_mul_right (Nat.two_pow_pos _) this
      rw [hpd, hpz, Nat.shiftLeft_zero, hmk]
      refine cut_exact _ _ _ ?_
      rw [← hmk]; omega
    · have hpd : (((e : Int) - 52) - p).toNat = 0 := by omega
      have hpz : (p - ((e : Int) - 52)).toNat = 52 - m.log2 := by omega
      rw [hpd, cut_zero, hpz, Nat.shiftLeft_eq]
      have : m * 2 ^ (52 - m.log2) * 2 ^ q = z.natAbs * 2 ^ (52 - e) * 2 ^ q := by
        rcases Nat.lt_or_ge q N with hq2 | hq2
        · rw [Nat.mul_assoc, Nat.mul_comm (2 ^ (52 - m.log2)), ← Nat.mul_assoc, hv, Nat.mul_assoc, Nat.mul_assoc, ← Nat.pow_add, ← Nat.pow_add]
          congr 2; omega
        · rw [Nat.mul_assoc, Nat.mul_comm (2 ^ (52 - m.log2)), ← Nat.mul_assoc, hv, Nat.mul_assoc, Nat.mul_assoc, ← Nat.pow_add, ← Nat.pow_add]
          congr 2; omega
      exact Nat.eq_of_mul_eq_mul_right (Nat.two_pow_pos _) this
  have hw : Ieee.double.write (.number s m p) = Ieee.double.word s ((e + 1022) * 2 ^ 52 + z.natAbs * 2 ^ (52 - e)) := nearest_eq s m p e _ hm hlast hkept hk he52
  rw [hw, read_word s (e + 1022) _ ⟨by omega, by omega⟩ hk]
  refine ⟨s, _, _, rfl, fun h => absurd h h0, fun _ => ⟨by omega, by omega, ?_⟩, hn, hpos⟩
  rw [show (-(((e + 1022 : Nat) : Int) - 1074)).toNat = 52 - e by omega]
theorem signed_shift (s : Bool) (m k : Nat) : signed s m k = (if s then -1 else 1) * ((m * 2 ^ k : Nat) : Int) := by
  unfold signed; rw [Nat.shiftLeft_eq]; cases s <;> simp
theorem sgn_mul {z : Int} {s : Bool} (hn : z < 0 → s = true) (hp : 0 < z → s = false) : (if s then (-1 : Int) else 1) * (z.natAbs : Int) = z := by
  rcases Int.lt_trichotomy z 0 with h | h | h
  · rw [hn h]; simp; omega
  · subst h; simp
  · rw [hp h]; simp; omega
theorem isF_int {n : Int} (h : n.natAbs < 2 ^ 53) : IsF (FloatKind.f64.nearest n) n := by
  refine write_read (d := .number (n < 0) n.natAbs 0) ⟨_, _, _, 0, rfl, by omega, by simp, fun h => by simp [h], fun h => by simp; omega⟩ h
theorem RdD.at {d : Datum} {z : Int} (h : RdD d z) : ∃ s m p, d = .number s m p ∧ (z = 0 → m = 0) ∧ ∀ base : Int, base ≤ p → base ≤ -52 → signed s m (p - base).toNat = z * 2 ^ (-base).toNat := by
  obtain ⟨s, m, p, rfl, h0, h1, hn, hp⟩ := h
  refine ⟨s, m, p, rfl, h0, fun base hb hb2 => ?_⟩
  rw [signed_shift]
  by_cases hz : z = 0
  · rw [h0 hz, hz]; simp
  · obtain ⟨a, b, c⟩ := h1 hz
    have e : (m * 2 ^ (p - base).toNat : Nat) = z.natAbs * 2 ^ (-base).toNat := by
      rw [c, Nat.mul_assoc, ← Nat.pow_add]; congr 2; omega
    rw [e, Int.natCast_mul, ← Int.mul_assoc, sgn_mul hn hp]
    simp
theorem natAbs_mul_pow (z : Int) (k : Nat) : (z * 2 ^ k).natAbs = z.natAbs * 2 ^ k := by
  rw [Int.natAbs_mul, Int.natAbs_pow]; rfl
theorem sum_ex {d e : Datum} {y z : Int} (hd : RdD d y) (he : RdD e z) : ∃ r, d.sum e = some r ∧ (∀ p s, r = .number s 0 p → True) ∧ ((y + z).natAbs < 2 ^ 53 → RdD (Ieee.double.read (Ieee.double.write r)) (y + z)) := by
  obtain ⟨s, m, p, rfl, h0, h1⟩ := hd.at
  obtain ⟨t, n, q, rfl, g0, g1⟩ := he.at
  refine ⟨_, rfl, fun _ _ _ => trivial, fun hb => ?_⟩
  obtain ⟨s', m', p', e1, _, h3, _, _⟩ := hd
  obtain ⟨t', n', q', e2, _, g3, _, _⟩ := he
  cases e1; cases e2
  have key : ∃ N : Nat, -(N : Int) ≤ min p q ∧ (signed s m (p - min p q).toNat + signed t n (q - min p q).toNat).natAbs * 2 ^ (min p q + N).toNat = (y + z).natAbs * 2 ^ N ∧
      ((signed s m (p - min p q).toNat + signed t n (q - min p q).toNat) < 0 ↔ y + z < 0) ∧ ((signed s m (p - min p q).toNat + signed t n (q - min p q).toNat) = 0 ↔ y + z = 0) := by
    obtain ⟨base, hb1, hb2⟩ : ∃ base : Int, base ≤ min p q ∧ base ≤ -52 := ⟨min (min p q) (-52), by omega, by omega⟩
    have a1 := h1 base (by omega) hb2
    have a2 := g1 base (by omega) hb2
    obtain ⟨k, hk⟩ : ∃ k : Nat, min p q - base = k := ⟨(min p q - base).toNat, by omega⟩
    have b1 : signed s m (p - base).toNat = signed s m (p - min p q).toNat * 2 ^ k := by
      rw [signed_shift, signed_shift, Int.mul_assoc]
      congr 1
      rw [show (p - base).toNat = (p - min p q).toNat + k by omega, Nat.pow_add, ← Nat.mul_assoc, Int.natCast_mul]; simp
    have b2 : signed t n (q - base).toNat = signed t n (q - min p q).toNat * 2 ^ k := by
      rw [signed_shift, signed_shift, Int.mul_assoc]
      congr 1
      rw [show (q - base).toNat = (q - min p q).toNat + k by omega, Nat.pow_add, ← Nat.mul_assoc, Int.natCast_mul]; simp
    have c1 : (signed s m (p - min p q).toNat + signed t n (q - min p q).toNat) * 2 ^ k = (y + z) * 2 ^ (-base).toNat := by
      rw [Int.add_mul, Int.add_mul, ← b1, ← b2, a1, a2]
    generalize signed s m (p - min p q).toNat + signed t n (q - min p q).toNat = T at *
    have hpk : (0 : Int) < 2 ^ k := Int.pow_pos (by decide)
    have hpb : (0 : Int) < 2 ^ (-base).toNat := Int.pow_pos (by decide)
    refine ⟨(-base).toNat, by omega, ?_, ?_, ?_⟩
    · have := congrArg Int.natAbs c1
      rw [natAbs_mul_pow, natAbs_mul_pow] at this
      rw [← this]; congr 2; omega
    · constructor
      · intro h
        have : T * 2 ^ k < 0 := Int.mul_neg_of_neg_of_pos h hpk
        rw [c1] at this
        rcases Int.lt_or_le (y + z) 0 with h4 | h4
        · exact h4
        · have := Int.mul_nonneg h4 (Int.le_of_lt hpb); omega
      · intro h
        have : (y + z) * 2 ^ (-base).toNat < 0 := Int.mul_neg_of_neg_of_pos h hpb
        rw [← c1] at this
        rcases Int.lt_or_le T 0 with h4 | h4
        · exact h4
        · have := Int.mul_nonneg h4 (Int.le_of_lt hpk); omega
    · constructor
      · intro h; rw [h, Int.zero_mul] at c1
        rcases Int.mul_eq_zero.1 c1.symm with h4 | h4
        · exact h4
        · omega
      · intro h; rw [h, Int.zero_mul] at c1
        rcases Int.mul_eq_zero.1 c1 with h4 | h4
        · exact h4
        · omega
  obtain ⟨N, k1, k2, k3, k4⟩ := key
  refine write_read ⟨_, _, _, N, rfl, k1, k2, fun h => ?_, fun h => ?_⟩ hb
  · rw [if_neg (fun e => by have := k4.1 e; omega)]; simp [k3.2 h]
  · rw [if_neg (fun e => by have := k4.1 e; omega)]
    have : ¬ (signed s m (p - min p q).toNat + signed t n (q - min p q).toNat) < 0 := fun e => by have := k3.1 e; omega
    simp [this]
theorem isF_add {x y : Nat} {a b : Int} (hx : IsF x a) (hy : IsF y b) (h : (a + b).natAbs < 2 ^ 53) : ∃ r, Ieee.double.add x y = some r ∧ IsF r (a + b) := by
  obtain ⟨r, h1, _, h2⟩ := sum_ex hx hy
  refine ⟨Ieee.double.write r, ?_, h2 h⟩
  unfold Format.add
  have h1' : (Ieee.double.read x).sum (Ieee.double.read y) = some r := h1
  rw [h1']; rfl
theorem RdD.opp {d : Datum} {z : Int} (h : RdD d z) : RdD d.opposite (-z) := by
  obtain ⟨s, m, p, rfl, h0, h1, hn, hp⟩ := h
  refine ⟨!s, m, p, rfl, fun e => h0 (by omega), fun e => ?_, fun e => by rw [hp (by omega)]; rfl, fun e => by rw [hn (by omega)]; rfl⟩
  obtain ⟨a, b, c⟩ := h1 (by omega)
  exact ⟨a, b, by rw [c, Int.natAbs_neg]⟩
theorem isF_sub {x y : Nat} {a b : Int} (hx : IsF x a) (hy : IsF y b) (h : (a - b).natAbs < 2 ^ 53) : ∃ r, Ieee.double.sub x y = some r ∧ IsF r (a - b) := by
  obtain ⟨r, h1, _, h2⟩ := sum_ex hx (RdD.opp hy)
  refine ⟨Ieee.double.write r, ?_, by rw [Int.sub_eq_add_neg]; exact h2 (by rw [← Int.sub_eq_add_neg]; exact h)⟩
  unfold Format.sub
  have h1' : (Ieee.double.read x).sum (Ieee.double.read y).opposite = some r := h1
  rw [h1']; rfl
theorem isF_mul {x y : Nat} {a b : Int} (hx : IsF x a) (hy : IsF y b) (h : (a * b).natAbs < 2 ^ 53) : ∃ r, Ieee.double.mul x y = some r ∧ IsF r (a * b) := by
  obtain ⟨s, m, p, e1, h0, h1, hn, hp⟩ := hx
  obtain ⟨t, n, q, e2, g0, g1, gn, gp⟩ := hy
  have e1' : Ieee.double.read x = .number s m p := e1
  have e2' : Ieee.double.read y = .number t n q := e2
  refine ⟨Ieee.double.write (.number (s ^^ t) (m * n) (p + q)), by unfold Format.mul; rw [e1', e2']; rfl, ?_⟩
  by_cases hz : a * b = 0
  · have hmn : m * n = 0 := by
      rcases Int.mul_eq_zero.1 hz with h | h
      · rw [h0 h, Nat.zero_mul]
      · rw [g0 h, Nat.mul_zero]
    refine write_read (d := .number (s ^^ t) (m * n) (p + q)) ⟨_, _, _, (-(p + q)).toNat, rfl, by omega, ?_, fun e => by omega, fun e => by omega⟩ h
    rw [hmn, hz]; simp
  · have ha : a ≠ 0 := fun e => hz (by rw [e, Int.zero_mul])
    have hb : b ≠ 0 := fun e => hz (by rw [e, Int.mul_zero])
    obtain ⟨a1, a2, a3⟩ := h1 ha
    obtain ⟨b1, b2, b3⟩ := g1 hb
    refine write_read (d := .number (s ^^ t) (m * n) (p + q)) ⟨_, _, _, 104, rfl, by omega, ?_, fun e => ?_, fun e => ?_⟩ h
    · rw [a3, b3, Int.natAbs_mul]
      have : a.natAbs * 2 ^ (-p).toNat * (b.natAbs * 2 ^ (-q).toNat) * 2 ^ (p + q + (104 : Nat)).toNat = a.natAbs * b.natAbs * (2 ^ (-p).toNat * 2 ^ (-q).toNat * 2 ^ (p + q + (104 : Nat)).toNat) := by
        simp only [Nat.mul_assoc, Nat.mul_left_comm]
      rw [this, ← Nat.pow_add, ← Nat.pow_add]
      congr 2; omega
    · rcases Int.lt_trichotomy a 0 with ha' | ha' | ha'
      · rcases Int.lt_trichotomy b 0 with hb' | hb' | hb'
        · have := Int.mul_pos_of_neg_of_neg ha' hb'; omega
        · exact absurd hb' hb
        · rw [hn ha', gp hb']; rfl
      · exact absurd ha' ha
      · rcases Int.lt_trichotomy b 0 with hb' | hb' | hb'
        · rw [hp ha', gn hb']; rfl
        · exact absurd hb' hb
        · have := Int.mul_pos ha' hb'; omega
    · rcases Int.lt_trichotomy a 0 with ha' | ha' | ha'
      · rcases Int.lt_trichotomy b 0 with hb' | hb' | hb'
        · rw [hn ha', gn hb']; rfl
        · exact absurd hb' hb
        · have := Int.mul_neg_of_neg_of_pos ha' hb'; omega
      · exact absurd ha' ha
      · rcases Int.lt_trichotomy b 0 with hb' | hb' | hb'
        · have := Int.mul_neg_of_pos_of_neg ha' hb'; omega
        · exact absurd hb' hb
        · rw [hp ha', gp hb']; rfl
theorem isF_toInt {x : Nat} {a : Int} (hx : IsF x a) (h : -9223372036854775808 ≤ a ∧ a ≤ 9223372036854775807) : floatToIntVal .f64 x .i64 = some a := by
  obtain ⟨s, m, p, e1, h0, h1, hn, hp⟩ := hx
  have e : (FloatKind.f64.decode x).toInt .zero = some a := by
    rw [e1]
    unfold Datum.toInt Datum.integral
    dsimp only
    have hc : Toward.zero.cut s (m <<< p.toNat) (-p).toNat = a.natAbs := by
      unfold Toward.cut
      dsimp only
      by_cases hz : a = 0
      · rw [h0 hz, hz]; simp
      · obtain ⟨a1, a2, a3⟩ := h1 hz
        have hp0 : p.toNat = 0 := by omega
        obtain ⟨d, hd⟩ : ∃ d : Nat, (-p).toNat = d := ⟨_, rfl⟩
        rw [hp0, Nat.shiftLeft_zero, hd]
        rw [hd] at a3
        have hl : d ≤ m.log2 := by
          rw [Nat.le_log2 (by rw [a3]; exact Nat.ne_of_gt (Nat.mul_pos (by omega) (Nat.two_pow_pos _))), a3]
          exact Nat.le_mul_of_pos_left _ (by omega)
        rw [Nat.min_eq_left (by omega), Nat.one_shiftLeft, a3, Nat.mul_div_cancel _ (Nat.two_pow_pos d)]; rfl
    rw [hc, signed_shift]
    simp only [Nat.pow_zero, Nat.mul_one]
    rw [sgn_mul hn hp]
  unfold floatToIntVal
  rw [e]
  dsimp only
  rw [if_pos]
  exact h
theorem isF_neg {x : Nat} {a : Int} (hx : IsF x a) : IsF (Op.negFloat .f64 x) (-a) := by
  have hs : Ieee.double.signWeight = 2 ^ 63 := rfl
  have e : Ieee.double.read (Op.negFloat .f64 x) = (Ieee.double.read x).opposite := by
    have e0 : Op.negFloat .f64 x = x ^^^ 2 ^ 63 := rfl
    rw [e0]
    have e1 : (x ^^^ 2 ^ 63) % 2 ^ 63 = x % 2 ^ 63 := by rw [Nat.xor_mod_two_pow]; simp
    have e2 : ((x ^^^ 2 ^ 63) / 2 ^ 63 % 2 == 1) = !(x / 2 ^ 63 % 2 == 1) := by
      rw [Nat.xor_div_two_pow, show (2 : Nat) ^ 63 / 2 ^ 63 = 1 by decide]
      have : (x / 2 ^ 63 ^^^ 1) % 2 = (x / 2 ^ 63 % 2) ^^^ 1 := by
        have := Nat.xor_mod_two_pow (a := x / 2 ^ 63) (b := 1) (n := 1)
        simpa using this
      rw [this]
      rcases Nat.mod_two_eq_zero_or_one (x / 2 ^ 63) with h | h <;> rw [h] <;> rfl
    unfold Format.read
    rw [hs, e1, e2]
    dsimp only
    split
    · rfl
    · split
      · rfl
      · split <;> rfl
  have := RdD.opp hx
  unfold IsF
  have h2 : FloatKind.f64.decode (Op.negFloat .f64 x) = Ieee.double.read (Op.negFloat .f64 x) := rfl
  rw [h2, e]
  exact this
end Go.Gd
