/- Floors: a float made wider, cut to a whole number, made narrower again; the same by way of an integer. -/
import Derived.Test.YtlkpkenbfaiinaaSl6
namespace Go.Sl
open Ieee
theorem dbl_bi : double.binade = 4503599627370496 := by decide
theorem dbl_in : double.infRung = 9218868437227405312 := by decide
theorem dbl_lp : double.leastPlace = -1074 := by decide
theorem dbl_sw : double.signWeight = 9223372036854775808 := by decide
theorem dbl_fb : double.fractionBits = 52 := by decide
/-- a double is exact on what has no more than 53 binary digits -/
theorem dnear {m : Nat} {e : Int} (h0 : m ≠ 0) (hm : m < 2 ^ 53) (h1 : -1022 ≤ e + m.log2) (h2 : e + m.log2 ≤ 1000) :
    ∃ K e', double.read (double.nearest false m e) = .number false K e' ∧ -1074 ≤ e' ∧ e' ≤ e ∧ K = m * 2 ^ (e - e').toNat := by
  have hL : m.log2 < 53 := (Nat.log2_lt h0).2 hm
  refine ⟨m * 2 ^ (52 - m.log2), e + m.log2 - 52, ?_, by omega, by omega, by congr 2; omega⟩
  have hlt : m < 2 ^ (m.log2 + 1) := Nat.lt_log2_self
  have hge : 2 ^ m.log2 ≤ m := Nat.log2_self_le h0
  have hk : m * 2 ^ (52 - m.log2) < 9007199254740992 := by
    have e1 : 2 ^ (m.log2 + 1) * 2 ^ (52 - m.log2) = 9007199254740992 := by rw [← Nat.pow_add, show m.log2 + 1 + (52 - m.log2) = 53 by omega]
    rw [← e1]
    exact Nat.mul_lt_mul_of_pos_right hlt (Nat.two_pow_pos _)
  have hk2 : 4503599627370496 ≤ m * 2 ^ (52 - m.log2) := by
    have e1 : 2 ^ m.log2 * 2 ^ (52 - m.log2) = 4503599627370496 := by rw [← Nat.pow_add, show m.log2 + (52 - m.log2) = 52 by omega]
    rw [← e1]
    exact Nat.mul_le_mul_right _ hge
  unfold Format.nearest
  rw [if_neg h0]
  simp only [dbl_bi, dbl_in, dbl_lp, dbl_fb]
  have hmax : max (e + ↑m.log2 - ((52 : Nat) : Int)) (-1074) = e + ↑m.log2 - 52 := by omega
  rw [hmax]
  have e1 : (e + ↑m.log2 - 52 - e).toNat = 0 := by omega
  have e2 : (e - (e + ↑m.log2 - 52)).toNat = 52 - m.log2 := by omega
  rw [e1, e2, cut_zero, Nat.shiftLeft_eq]
  generalize m * 2 ^ (52 - m.log2) = K at *
  generalize hP : (e + ↑m.log2 - 52 - -1074).toNat = P
  have hPe : (P : Int) = e + m.log2 - 52 + 1074 := by omega
  have hPb : P ≤ 2022 := by omega
  have hPm : P * 4503599627370496 ≤ 2022 * 4503599627370496 := Nat.mul_le_mul_right _ hPb
  have key : ∀ R : Nat, R = P * 4503599627370496 + K → double.read (double.word false (min R 9218868437227405312)) = .number false K (e + ↑m.log2 - 52) := by
    intro R hR
    rw [Nat.min_eq_left (by omega)]
    have hw : double.word false R = R := rfl
    rw [hw]
    unfold Format.read
    simp only [dbl_bi, dbl_in, dbl_lp, dbl_sw]
    have hlt : R < 9223372036854775808 := by omega
    have hq : R / 4503599627370496 = P + 1 := by omega
    have hm2 : R % 4503599627370496 = K - 4503599627370496 := by omega
    rw [Nat.mod_eq_of_lt hlt, Nat.div_eq_of_lt hlt, if_neg (by omega), if_pos (by omega), hq, hm2]
    have e3 : 4503599627370496 + (K - 4503599627370496) = K := by omega
    have e4 : -1074 + ((P + 1 - 1 : Nat) : Int) = e + ↑m.log2 - 52 := by omega
    rw [e3, e4]
    rfl
  exact key _ rfl
/-- what is cut away -/
theorem cut_down (n d : Nat) : Toward.down.cut false n d = n / 2 ^ d ∧ Toward.zero.cut false n d = n / 2 ^ d := by
  have key : n / (1 <<< min d (n.log2 + 2)) = n / 2 ^ d := by
    rw [Nat.shiftLeft_eq, Nat.one_mul]
    rcases Nat.le_total d (n.log2 + 2) with h | h
    · rw [Nat.min_eq_left h]
    · rw [Nat.min_eq_right h]
      have hlt : n < 2 ^ (n.log2 + 1) := Nat.lt_log2_self
      have a : 2 ^ (n.log2 + 1) ≤ 2 ^ (n.log2 + 2) := Nat.pow_le_pow_right (by decide) (by omega)
      have b : 2 ^ (n.log2 + 2) ≤ 2 ^ d := Nat.pow_le_pow_right (by decide) h
      rw [Nat.div_eq_of_lt (by omega), Nat.div_eq_of_lt (by omega)]
  unfold Toward.cut
  simp only [key]
  constructor <;> simp
/-- the whole part of m * 2 ^ e -/
def flr (m : Nat) (e : Int) : Nat := (m * 2 ^ e.toNat) / 2 ^ (-e).toNat
theorem flr_scale {m : Nat} {e e' : Int} (h : e' ≤ e) : flr (m * 2 ^ (e - e').toNat) e' = flr m e := by
  unfold flr
  rcases Int.le_total 0 e' with h1 | h1
  · rw [show (-e').toNat = 0 by omega, show (-e).toNat = 0 by omega, Nat.mul_assoc, ← Nat.pow_add, show (e - e').toNat + e'.toNat = e.toNat by omega]
  · rw [show e'.toNat = 0 by omega, Nat.pow_zero, Nat.mul_one]
    rcases Int.le_total 0 e with h2 | h2
    · rw [show (-e).toNat = 0 by omega, Nat.pow_zero, Nat.div_one, show (e - e').toNat = e.toNat + (-e').toNat by omega, Nat.pow_add, ← Nat.mul_assoc, Nat.mul_div_cancel _ (Nat.two_pow_pos _)]
    · rw [show e.toNat = 0 by omega, Nat.pow_zero, Nat.mul_one, show (-e').toNat = (-e).toNat + (e - e').toNat by omega, Nat.pow_add, Nat.mul_div_mul_right _ _ (Nat.two_pow_pos _)]
theorem integral_down (m : Nat) (e : Int) : (Datum.number false m e).integral .down = .number false (flr m e) 0 := by
  unfold Datum.integral flr
  simp only [(cut_down _ _).1, Nat.shiftLeft_eq]
theorem toInt_zero (m : Nat) (e : Int) : (Datum.number false m e).toInt .zero = some ((flr m e : Nat) : Int) := by
  unfold Datum.toInt Datum.integral flr
  simp only [(cut_down _ _).2, Nat.shiftLeft_eq, signed_false]
  simp
/-- the nearest float of a whole number does not hang on how it is written -/
theorem near_scale {N : Nat} {e : Int} (h : -1074 ≤ e) (h2 : e ≤ 0) : single.nearest false (N * 2 ^ (0 - e).toNat) e = single.nearest false N 0 := by
  rw [nearest_rung (q := 925) (by omega), nearest_rung (q := 925) (by omega), Nat.mul_assoc, ← Nat.pow_add, show (0 - e).toNat + (e + 149 + ((925 : Nat) : Int)).toNat = ((0 : Int) + 149 + ((925 : Nat) : Int)).toNat by omega]
theorem near_fin {N : Nat} (h : N ≤ 2 ^ 40) : ∃ m e, single.read (single.nearest false N 0) = .number false m e := by
  rw [nearest_rung (q := 0) (by omega)]
  have hb := HV_rung (neg := false) (r := 1500000000) (by decide) (fun h => by cases h)
  have hv : 2 ^ 40 * 2 ^ 149 ≤ valR 1500000000 := by decide +kernel
  have hlt : rungN 0 (N * 2 ^ ((0 : Int) + 149 + (0 : Nat)).toNat) < 2139095040 := by
    refine rung_fin hb ?_
    rw [Nat.pow_zero, Nat.mul_one]
    refine Nat.le_trans ?_ hv
    exact Nat.mul_le_mul_right _ h
  obtain ⟨m, e, h1, _⟩ := read_word false hlt
  exact ⟨m, e, h1⟩
/-- the floor of a float, as a float -/
def floorF (m : Nat) (e : Int) : Nat := single.nearest false (flr m e) 0
theorem floor_int {m : Nat} {e : Int} : FloatKind.f32.nearest ((flr m e : Nat) : Int) = floorF m e := by
  show single.nearest (decide (((flr m e : Nat) : Int) < 0)) (((flr m e : Nat) : Int)).natAbs 0 = _
  have : decide (((flr m e : Nat) : Int) < 0) = false := by simp
  rw [this]
  rfl
end Go.Sl
