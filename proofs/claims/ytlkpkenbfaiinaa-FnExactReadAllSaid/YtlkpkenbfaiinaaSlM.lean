/- Sums, differences and products of floats that are not negative, by their exact values; parts, rates and ripeness. -/
import Derived.Test.YtlkpkenbfaiinaaSlL
namespace Go.Sl
open Ieee

theorem valR_mk {k x : Nat} (h : k = 0 ∨ 8388608 ≤ x) (hx : x ≤ 16777216) : valR (k * 8388608 + x) = x * 2 ^ k := by
  unfold valR
  rcases Nat.lt_or_ge (k * 8388608 + x) 8388608 with h1 | h1
  · rw [if_pos h1]
    have : k = 0 := by omega
    subst this; simp
  · rw [if_neg (by omega)]
    rcases Nat.lt_or_ge x 16777216 with h2 | h2
    · have e1 : (k * 8388608 + x) / 8388608 = k + 1 := by omega
      have e2 : (k * 8388608 + x) % 8388608 = x - 8388608 := by omega
      have hx2 : 8388608 ≤ x := by omega
      rw [e1, e2, show k + 1 - 1 = k by omega, show 8388608 + (x - 8388608) = x by omega]
    · have hx' : x = 16777216 := by omega
      subst hx'
      have e1 : (k * 8388608 + 16777216) / 8388608 = k + 2 := by omega
      have e2 : (k * 8388608 + 16777216) % 8388608 = 0 := by omega
      rw [e1, e2, show k + 2 - 1 = k + 1 by omega, Nat.pow_succ]; omega

theorem RE_two {a b : Nat} (hb : 0 < b) : RE a b * b ≤ 2 * a := by
  obtain ⟨d, r, e, hr, h | h⟩ := RE_cases (a := a) hb
  · rw [h.1, Nat.add_mul, Nat.one_mul, Nat.mul_comm d b]; omega
  · rw [h.1, Nat.mul_comm d b]; omega

theorem RE_big (q N : Nat) : RE N (2 ^ max (N.log2 - 23) q) ≤ 16777216 ∧ (max (N.log2 - 23) q - q = 0 ∨ 8388608 ≤ RE N (2 ^ max (N.log2 - 23) q)) := by
  generalize hd : max (N.log2 - 23) q = D
  constructor
  · have b := Nat.lt_log2_self (n := N)
    have : N ≤ 16777216 * 2 ^ D := by
      have e : 16777216 * 2 ^ D = 2 ^ (24 + D) := by rw [Nat.pow_add]
      have : 2 ^ (N.log2 + 1) ≤ 2 ^ (24 + D) := Nat.pow_le_pow_right (by omega) (by omega)
      omega
    have := RE_mono (a := N) (b := 2 ^ D) (a' := 16777216 * 2 ^ D) (b' := 2 ^ D) (Nat.two_pow_pos _) (Nat.two_pow_pos _) (Nat.mul_le_mul_right _ this)
    rwa [RE_int (Nat.two_pow_pos _)] at this
  · rcases Nat.lt_or_ge q D with h | h
    · right
      have hN : N ≠ 0 := by intro h0; subst h0; rw [show Nat.log2 0 = 0 from rfl] at hd; omega
      have a := Nat.log2_self_le hN
      have : 8388608 * 2 ^ D ≤ N := by
        have e : 8388608 * 2 ^ D = 2 ^ (23 + D) := by rw [Nat.pow_add]
        rw [e, show 23 + D = N.log2 by omega]; exact a
      have := RE_mono (a' := N) (b' := 2 ^ D) (a := 8388608 * 2 ^ D) (b := 2 ^ D) (Nat.two_pow_pos _) (Nat.two_pow_pos _) (Nat.mul_le_mul_right _ this)
      rwa [RE_int (Nat.two_pow_pos _)] at this
    · left; omega
/-- the rounded value, plainly -/
theorem rnd_eq {q N : Nat} (h : rungN q N < 2139095040) : rnd q N = RE N (2 ^ max (N.log2 - 23) q) * 2 ^ (max (N.log2 - 23) q - q) := by
  obtain ⟨h1, h2⟩ := RE_big q N
  unfold rnd
  have : rungN q N = (max (N.log2 - 23) q - q) * 8388608 + RE N (2 ^ max (N.log2 - 23) q) := by
    unfold rungN at h ⊢; omega
  rw [this]
  exact valR_mk h2 h1
theorem rnd_two {q N : Nat} (h : rungN q N < 2139095040) : rnd q N * 2 ^ q ≤ 2 * N := by
  rw [rnd_eq h, Nat.mul_assoc, ← Nat.pow_add, show max (N.log2 - 23) q - q + q = max (N.log2 - 23) q by omega]
  exact RE_two (Nat.two_pow_pos _)
theorem rung_fin {q N B b : Nat} (hb : HV b B) (h : N ≤ B * 2 ^ q) : rungN q N < 2139095040 := by
  obtain ⟨r, hr, rfl⟩ := HV_exact hb
  have := rung_le hr h
  omega

theorem to_base {m : Nat} {e b : Int} (h : b ≤ e) (hb : -149 ≤ b) : m * 2 ^ (e - b).toNat * 2 ^ (b + 149).toNat = m * 2 ^ (e + 149).toNat := by
  rw [Nat.mul_assoc, ← Nat.pow_add]; congr 2; omega

theorem HV_add {p q N M b B : Nat} (hp : HV p N) (hq : HV q M) (hb : HV b B) (h : N + M ≤ B) :
    floatBits .add .f32 p q = some (fadd p q) ∧ HV (fadd p q) (rnd 0 (N + M)) ∧ rnd 0 (N + M) ≤ B := by
  obtain ⟨s, m, e, h1, h2, h3, rfl⟩ := hp
  obtain ⟨t, n, f, k1, k2, k3, rfl⟩ := hq
  have key : ∃ r, single.add p q = some r ∧ HV r (rnd 0 (m * 2 ^ (e + 149).toNat + n * 2 ^ (f + 149).toNat)) ∧ rnd 0 (m * 2 ^ (e + 149).toNat + n * 2 ^ (f + 149).toNat) ≤ B := by
    unfold Format.add
    rw [h1, k1]
    refine ⟨_, rfl, ?_⟩
    show HV (single.nearest _ _ _) _ ∧ _
    rw [signed_nn h2, signed_nn k2]
    have e1 := to_base (m := m) (e := e) (b := min e f) (by omega) (by omega)
    have e2 := to_base (m := n) (e := f) (b := min e f) (by omega) (by omega)
    have e3 : ((m * 2 ^ (e - min e f).toNat : Nat) : Int) + ((n * 2 ^ (f - min e f).toNat : Nat) : Int) = ((m * 2 ^ (e - min e f).toNat + n * 2 ^ (f - min e f).toNat : Nat) : Int) := by simp
    rw [e3, Int.natAbs_natCast]
    have e4 : (m * 2 ^ (e - min e f).toNat + n * 2 ^ (f - min e f).toNat) * 2 ^ (min e f + 149 + (0 : Nat)).toNat = m * 2 ^ (e + 149).toNat + n * 2 ^ (f + 149).toNat := by
      rw [show min e f + 149 + ((0 : Nat) : Int) = min e f + 149 by omega, Nat.add_mul, e1, e2]
    rw [← e4]
    refine HV_near (q := 0) (by omega) (fun hn => ?_) hb (by rw [e4, Nat.pow_zero, Nat.mul_one]; exact h)
    split at hn
    · omega
    · simp only [decide_eq_true_eq] at hn; omega
  obtain ⟨r, a1, a2⟩ := key
  have : fadd p q = r := by unfold fadd; rw [a1]; rfl
  rw [this]
  exact ⟨a1, a2⟩

theorem HV_sub {p q N M : Nat} (hp : HV p N) (hq : HV q M) (h : M ≤ N) :
    floatBits .sub .f32 p q = some (fsub p q) ∧ HV (fsub p q) (rnd 0 (N - M)) ∧ rnd 0 (N - M) ≤ N := by
  have hb := hp
  obtain ⟨s, m, e, h1, h2, h3, rfl⟩ := hp
  obtain ⟨t, n, f, k1, k2, k3, rfl⟩ := hq
  have key : ∃ r, single.sub p q = some r ∧ HV r (rnd 0 (m * 2 ^ (e + 149).toNat - n * 2 ^ (f + 149).toNat)) ∧ rnd 0 (m * 2 ^ (e + 149).toNat - n * 2 ^ (f + 149).toNat) ≤ m * 2 ^ (e + 149).toNat := by
    unfold Format.sub
    rw [h1, k1]
    refine ⟨_, rfl, ?_⟩
    show HV (single.nearest _ _ _) _ ∧ _
    have hop : signed (!t) n (f - min e f).toNat = -((n * 2 ^ (f - min e f).toNat : Nat) : Int) := by
      cases t with
      | true => rw [k2 rfl]; simp [signed_zero]
      | false => exact signed_true _ _
    rw [signed_nn h2, hop]
    have e1 := to_base (m := m) (e := e) (b := min e f) (by omega) (by omega)
    have e2 := to_base (m := n) (e := f) (b := min e f) (by omega) (by omega)
    generalize hx : m * 2 ^ (e - min e f).toNat = x at *
    generalize hy : n * 2 ^ (f - min e f).toNat = y at *
    have hxy : y ≤ x := by
      rw [← e1, ← e2] at h
      exact Nat.le_of_mul_le_mul_right h (Nat.two_pow_pos _)
    have e3 : (x : Int) + -(y : Int) = ((x - y : Nat) : Int) := by omega
    rw [e3, Int.natAbs_natCast]
    have e4 : (x - y) * 2 ^ (min e f + 149 + (0 : Nat)).toNat = m * 2 ^ (e + 149).toNat - n * 2 ^ (f + 149).toNat := by
      rw [show min e f + 149 + ((0 : Nat) : Int) = min e f + 149 by omega, Nat.sub_mul, e1, e2]
    rw [← e4]
    refine HV_near (q := 0) (by omega) (fun hn => ?_) hb (by rw [e4, Nat.pow_zero, Nat.mul_one]; omega)
    split at hn
    · omega
    · simp only [decide_eq_true_eq] at hn; omega
  obtain ⟨r, a1, a2⟩ := key
  have : fsub p q = r := by unfold fsub; rw [a1]; rfl
  rw [this]
  exact ⟨a1, a2⟩

theorem HV_mul {p q N M b B : Nat} (hp : HV p N) (hq : HV q M) (hb : HV b B) (h : N * M ≤ B * 2 ^ 149) :
    floatBits .mul .f32 p q = some (fmul p q) ∧ HV (fmul p q) (rnd 149 (N * M)) ∧ rnd 149 (N * M) ≤ B := by
  obtain ⟨s, m, e, h1, h2, h3, rfl⟩ := hp
  obtain ⟨t, n, f, k1, k2, k3, rfl⟩ := hq
  have key : ∃ r, single.mul p q = some r ∧ HV r (rnd 149 (m * 2 ^ (e + 149).toNat * (n * 2 ^ (f + 149).toNat))) ∧ rnd 149 (m * 2 ^ (e + 149).toNat * (n * 2 ^ (f + 149).toNat)) ≤ B := by
    unfold Format.mul
    rw [h1, k1]
    refine ⟨_, rfl, ?_⟩
    show HV (single.nearest _ _ _) _ ∧ _
    have e4 : m * n * 2 ^ (e + f + 149 + (149 : Nat)).toNat = m * 2 ^ (e + 149).toNat * (n * 2 ^ (f + 149).toNat) := by
      rw [show (e + f + 149 + ((149 : Nat) : Int)).toNat = (e + 149).toNat + (f + 149).toNat by omega, Nat.pow_add]
      simp only [Nat.mul_assoc, Nat.mul_left_comm, Nat.mul_comm]
    rw [← e4]
    refine HV_near (q := 149) (by omega) (fun hn => ?_) hb (by rw [e4]; exact h)
    cases s with
    | true => rw [h2 rfl, Nat.zero_mul]
    | false =>
      cases t with
      | true => rw [k2 rfl, Nat.mul_zero]
      | false => cases hn
  obtain ⟨r, a1, a2⟩ := key
  have : fmul p q = r := by unfold fmul; rw [a1]; rfl
  rw [this]
  exact ⟨a1, a2⟩

/- parts -/
abbrev fone : Nat := 1065353216
theorem part_from_one {p : Nat} (h : isPart p = true) : floatBits .sub .f32 fone p = some (fsub fone p) ∧ isPart (fsub fone p) = true := by
  obtain ⟨N, h1, h2⟩ := part_HV h
  obtain ⟨a, b, c⟩ := HV_sub HV_one h1 h2
  exact ⟨a, HV_part b c⟩
theorem part_mul {p q : Nat} (h : isPart p = true) (k : isPart q = true) : floatBits .mul .f32 p q = some (fmul p q) ∧ isPart (fmul p q) = true := by
  obtain ⟨N, h1, h2⟩ := part_HV h
  obtain ⟨M, k1, k2⟩ := part_HV k
  obtain ⟨a, b, c⟩ := HV_mul h1 k1 HV_one (Nat.mul_le_mul h2 k2)
  exact ⟨a, HV_part b c⟩
def insideF (w c : Nat) : Nat := fmul w (fsub fone c)
theorem inside_ok {w c : Nat} (h : isPart w = true) (k : isPart c = true) : floatBits .mul .f32 w (fsub fone c) = some (insideF w c) ∧ isPart (insideF w c) = true := part_mul h (part_from_one k).2

theorem val_eighth : HV 1040187392 (2 ^ 146) := by
  have := HV_rung (neg := false) (r := 1040187392) (by omega) (fun h => by cases h)
  rwa [show valR 1040187392 = 2 ^ 146 by decide +kernel] at this
theorem val_quarter : HV 1048576000 (2 ^ 147) := by
  have := HV_rung (neg := false) (r := 1048576000) (by omega) (fun h => by cases h)
  rwa [show valR 1048576000 = 2 ^ 147 by decide +kernel] at this
theorem val_two : HV 1073741824 (2 ^ 150) := by
  have := HV_rung (neg := false) (r := 1073741824) (by omega) (fun h => by cases h)
  rwa [show valR 1073741824 = 2 ^ 150 by decide +kernel] at this

/-- a rate: at most a quarter -/
def isRate (p : Nat) : Prop := ∃ N, HV p N ∧ N ≤ 2 ^ 147
def rateF (w g : Nat) : Nat := fmul (fmul w 1040187392) (fadd fone g)
theorem rate1 {w : Nat} (h : isPart w = true) : floatBits .mul .f32 w 1040187392 = some (fmul w 1040187392) ∧ ∃ N, HV (fmul w 1040187392) N ∧ N ≤ 2 ^ 146 := by
  obtain ⟨N, h1, h2⟩ := part_HV h
  obtain ⟨a, b, c⟩ := HV_mul h1 val_eighth val_eighth (by rw [Nat.mul_comm]; exact Nat.mul_le_mul_left _ h2)
  exact ⟨a, _, b, c⟩
theorem rate2 {g : Nat} (h : isPart g = true) : floatBits .add .f32 fone g = some (fadd fone g) ∧ ∃ N, HV (fadd fone g) N ∧ N ≤ 2 ^ 150 := by
  obtain ⟨N, h1, h2⟩ := part_HV h
  obtain ⟨a, b, c⟩ := HV_add HV_one h1 val_two (by rw [show 2 ^ 150 = 2 ^ 149 + 2 ^ 149 by decide]; omega)
  exact ⟨a, _, b, c⟩
theorem rate_ok {w g : Nat} (h : isPart w = true) (k : isPart g = true) : floatBits .mul .f32 (fmul w 1040187392) (fadd fone g) = some (rateF w g) ∧ isRate (rateF w g) := by
  obtain ⟨_, N, h1, h2⟩ := rate1 h
  obtain ⟨_, M, k1, k2⟩ := rate2 k
  obtain ⟨a, b, c⟩ := HV_mul h1 k1 val_quarter (by rw [show 2 ^ 147 * 2 ^ 149 = 2 ^ 146 * 2 ^ 150 by decide]; exact Nat.mul_le_mul h2 k2)
  exact ⟨a, _, b, c⟩
def grownF (p r : Nat) : Nat := fadd p (fmul r (fsub fone p))
theorem grown1 {p r : Nat} (h : isPart p = true) (k : isRate r) : floatBits .mul .f32 r (fsub fone p) = some (fmul r (fsub fone p)) := by
  obtain ⟨N, h1, h2⟩ := part_HV (part_from_one h).2
  obtain ⟨R, k1, k2⟩ := k
  exact (HV_mul k1 h1 HV_one (Nat.mul_le_mul (Nat.le_trans k2 (by decide)) h2)).1
theorem grown_ok {p r : Nat} (h : isPart p = true) (k : isRate r) : floatBits .add .f32 p (fmul r (fsub fone p)) = some (grownF p r) ∧ isPart (grownF p r) = true := by
  obtain ⟨N, h1, h2⟩ := part_HV h
  obtain ⟨R, k1, k2⟩ := k
  obtain ⟨_, a2, a3⟩ := HV_sub HV_one h1 h2
  have x1 := rnd_two (q := 0) (N := 2 ^ 149 - N) (rung_fin HV_one (by rw [Nat.pow_zero, Nat.mul_one]; omega))
  rw [Nat.pow_zero, Nat.mul_one] at x1
  generalize rnd 0 (2 ^ 149 - N) = x at *
  have hb : R * x ≤ 2 ^ 149 * 2 ^ 149 := Nat.mul_le_mul (Nat.le_trans k2 (by decide)) a3
  obtain ⟨_, b2, b3⟩ := HV_mul k1 a2 HV_one hb
  have y1 := rnd_two (q := 149) (N := R * x) (rung_fin HV_one hb)
  generalize rnd 149 (R * x) = y at *
  have hy : y ≤ 2 ^ 149 - N := by
    have : R * x ≤ 2 ^ 147 * (2 * (2 ^ 149 - N)) := Nat.mul_le_mul k2 x1
    have e : 2 * (2 ^ 147 * (2 * (2 ^ 149 - N))) = (2 ^ 149 - N) * 2 ^ 149 := by
      generalize 2 ^ 149 - N = z
      rw [show (2 : Nat) ^ 149 = 2 ^ 147 * 4 by decide]
      omega
    have : y * 2 ^ 149 ≤ (2 ^ 149 - N) * 2 ^ 149 := by omega
    exact Nat.le_of_mul_le_mul_right this (Nat.two_pow_pos _)
  obtain ⟨c1, c2, c3⟩ := HV_add h1 b2 HV_one (by omega)
  exact ⟨c1, HV_part c2 c3⟩
end Go.Sl
