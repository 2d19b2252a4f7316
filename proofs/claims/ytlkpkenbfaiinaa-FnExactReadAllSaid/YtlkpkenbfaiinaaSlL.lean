/- Rounding to nearest is monotone: exact values of floats that are not negative, as multiples of the least one. -/
import Derived.Test.YtlkpkenbfaiinaaSlK
namespace Go.Sl
open Ieee

/-- a / b to the nearest whole number, between two to the even one -/
def RE (a b : Nat) : Nat := a / b + (decide (b < 2 * (a % b)) || (b == 2 * (a % b) && a / b % 2 == 1)).toNat

theorem RE_cases {a b : Nat} (hb : 0 < b) : ∃ d r, a = b * d + r ∧ r < b ∧ ((RE a b = d + 1 ∧ (b < 2 * r ∨ (b = 2 * r ∧ d % 2 = 1))) ∨ (RE a b = d ∧ 2 * r ≤ b ∧ (2 * r = b → d % 2 = 0))) := by
  refine ⟨a / b, a % b, (Nat.div_add_mod a b).symm, Nat.mod_lt _ hb, ?_⟩
  unfold RE
  by_cases h1 : b < 2 * (a % b)
  · left; simp [h1]
  · by_cases h2 : b = 2 * (a % b)
    · by_cases h3 : a / b % 2 = 1
      · left; refine ⟨?_, .inr ⟨h2, h3⟩⟩
        have : (b == 2 * (a % b)) = true := by simpa using h2
        simp [h3, this]
      · right; refine ⟨?_, by omega, fun _ => by omega⟩
        simp [h1, h3]
    · right; refine ⟨?_, by omega, fun h => absurd h.symm h2⟩
      simp [h1, h2]
theorem RE_hi {a b : Nat} (hb : 0 < b) : 2 * a ≤ (2 * RE a b + 1) * b ∧ (2 * a = (2 * RE a b + 1) * b → RE a b % 2 = 0) := by
  obtain ⟨d, r, e, hr, h | h⟩ := RE_cases (a := a) hb
  · rw [h.1]
    have : (2 * (d + 1) + 1) * b = 2 * (b * d) + 3 * b := by rw [Nat.mul_comm b d, ← Nat.mul_assoc, ← Nat.add_mul]; rfl
    rw [this, e]; omega
  · rw [h.1]
    have : (2 * d + 1) * b = 2 * (b * d) + b := by rw [Nat.add_mul, Nat.mul_comm b d, Nat.mul_assoc]; omega
    rw [this, e]
    exact ⟨by omega, fun h' => h.2.2 (by omega)⟩
theorem RE_lo {a b : Nat} (hb : 0 < b) : 2 * RE a b * b ≤ 2 * a + b ∧ (2 * RE a b * b = 2 * a + b → RE a b % 2 = 0) := by
  obtain ⟨d, r, e, hr, h | h⟩ := RE_cases (a := a) hb
  · rw [h.1]
    have : 2 * (d + 1) * b = 2 * (b * d) + 2 * b := by rw [Nat.mul_add, Nat.add_mul, Nat.mul_comm b d, Nat.mul_assoc]
    rw [this, e]
    exact ⟨by omega, fun h' => by omega⟩
  · rw [h.1]
    have : 2 * d * b = 2 * (b * d) := by rw [Nat.mul_comm b d, Nat.mul_assoc]
    rw [this, e]
    exact ⟨by omega, fun h' => by omega⟩
theorem RE_mono {a b a' b' : Nat} (hb : 0 < b) (hb' : 0 < b') (h : a * b' ≤ a' * b) : RE a b ≤ RE a' b' := by
  refine Nat.le_of_not_lt fun hlt => ?_
  obtain ⟨l1, l2⟩ := RE_lo (a := a) hb
  obtain ⟨u1, u2⟩ := RE_hi (a := a') hb'
  generalize RE a b = r at *
  generalize RE a' b' = s at *
  have hP : 0 < b * b' := Nat.mul_pos hb hb'
  have L : 2 * r * b * b' ≤ (2 * a + b) * b' := Nat.mul_le_mul_right _ l1
  have U : 2 * a' * b ≤ (2 * s + 1) * b' * b := Nat.mul_le_mul_right _ u1
  have e1 : 2 * r * b * b' = 2 * (r * (b * b')) := by simp only [Nat.mul_assoc]
  have e2 : (2 * a + b) * b' = 2 * (a * b') + b * b' := by rw [Nat.add_mul, Nat.mul_assoc]
  have e3 : (2 * s + 1) * b' * b = 2 * (s * (b * b')) + b * b' := by rw [Nat.add_mul, Nat.add_mul, Nat.mul_comm b b']; simp only [Nat.mul_assoc, Nat.one_mul]
  have e4 : 2 * a' * b = 2 * (a' * b) := by rw [Nat.mul_assoc]
  have e5 : (s + 1) * (b * b') ≤ r * (b * b') := Nat.mul_le_mul_right _ (by omega)
  have e6 : (s + 1) * (b * b') = s * (b * b') + b * b' := by rw [Nat.add_mul, Nat.one_mul]
  rw [e1, e2] at L
  rw [e3, e4] at U
  rw [e6] at e5
  have hr : r = s + 1 := by
    have : r * (b * b') = (s + 1) * (b * b') := by rw [e6]; omega
    exact Nat.eq_of_mul_eq_mul_right hP this
  have q1 : 2 * r * b = 2 * a + b := by
    have : 2 * r * b * b' = (2 * a + b) * b' := by rw [e1, e2]; omega
    exact Nat.eq_of_mul_eq_mul_right hb' this
  have q2 : 2 * a' = (2 * s + 1) * b' := by
    have : 2 * a' * b = (2 * s + 1) * b' * b := by rw [e3, e4]; omega
    exact Nat.eq_of_mul_eq_mul_right hb this
  have := l2 q1
  have := u2 q2
  omega
theorem RE_scale {a b k : Nat} (hb : 0 < b) (hk : 0 < k) : RE (a * k) (b * k) = RE a b := by
  have hbk : 0 < b * k := Nat.mul_pos hb hk
  have e : a * k * b = a * (b * k) := by rw [Nat.mul_assoc, Nat.mul_comm k b]
  exact Nat.le_antisymm (RE_mono hbk hb (by omega)) (RE_mono hb hbk (by omega))
theorem RE_int {a b : Nat} (hb : 0 < b) : RE (a * b) b = a := by
  unfold RE
  rw [Nat.mul_div_cancel _ hb, Nat.mul_mod_left]
  have h2 : ¬ b = 0 := by omega
  simp [h2]
theorem RE_one (a : Nat) : RE a 1 = a := by
  have := RE_int (a := a) (b := 1) (by omega)
  rwa [Nat.mul_one] at this

theorem cut_RE (neg : Bool) (n drop : Nat) : Toward.even.cut neg n drop = RE n (2 ^ drop) := by
  have hn : n < 2 ^ (n.log2 + 1) := Nat.lt_log2_self
  unfold Toward.cut
  rcases Nat.le_total drop (n.log2 + 2) with h | h
  · rw [Nat.min_eq_left h, Nat.one_shiftLeft]
    rfl
  · rw [Nat.min_eq_right h, Nat.one_shiftLeft]
    have e : 2 ^ (n.log2 + 2) = 2 * 2 ^ (n.log2 + 1) := by rw [Nat.pow_succ]; omega
    have hle : 2 ^ (n.log2 + 2) ≤ 2 ^ drop := Nat.pow_le_pow_right (by omega) h
    have h1 : n / 2 ^ (n.log2 + 2) = 0 := Nat.div_eq_of_lt (by omega)
    have h2 : n % 2 ^ (n.log2 + 2) = n := Nat.mod_eq_of_lt (by omega)
    have h3 : n / 2 ^ drop = 0 := Nat.div_eq_of_lt (by omega)
    have h4 : n % 2 ^ drop = n := Nat.mod_eq_of_lt (by omega)
    unfold RE
    simp only [h1, h2, h3, h4]
    have a1 : ¬ 2 ^ (n.log2 + 2) < 2 * n := by omega
    have a2 : ¬ 2 ^ drop < 2 * n := by omega
    simp [a1, a2]

/-- the rung nearest to N units, where 2 ^ q units make the least float -/
def rungN (q N : Nat) : Nat := min ((max (N.log2 - 23) q - q) * 8388608 + RE N (2 ^ max (N.log2 - 23) q)) 2139095040

theorem log2_mul_pow {m k : Nat} (hm : m ≠ 0) : (m * 2 ^ k).log2 = m.log2 + k := by
  have h0 : m * 2 ^ k ≠ 0 := Nat.mul_ne_zero hm (Nat.pos_iff_ne_zero.1 (Nat.two_pow_pos k))
  rw [Nat.log2_eq_iff h0]
  have a := Nat.log2_self_le hm
  have b := Nat.lt_log2_self (n := m)
  constructor
  · rw [Nat.pow_add]; exact Nat.mul_le_mul_right _ a
  · rw [show m.log2 + k + 1 = (m.log2 + 1) + k by omega, Nat.pow_add]; exact Nat.mul_lt_mul_of_pos_right b (Nat.two_pow_pos k)

theorem nearest_rung {neg : Bool} {m : Nat} {e : Int} {q : Nat} (he : -149 - (q : Int) ≤ e) : single.nearest neg m e = single.word neg (rungN q (m * 2 ^ (e + 149 + q).toNat)) := by
  by_cases hm : m = 0
  · subst hm
    unfold Format.nearest
    rw [if_pos rfl]
    congr 1
    have hz : RE 0 (2 ^ max (0 - 23) q) = 0 := by
      have := RE_int (a := 0) (b := 2 ^ max (0 - 23) q) (Nat.two_pow_pos _)
      rwa [Nat.zero_mul] at this
    unfold rungN
    rw [Nat.zero_mul, show Nat.log2 0 = 0 from rfl, hz, show max (0 - 23) q = q by omega]
    omega
  · unfold Format.nearest
    rw [if_neg hm]
    show single.word neg (min (((max (e + (m.log2 : Int) - (single.fractionBits : Int)) single.leastPlace) - single.leastPlace).toNat * single.binade + Toward.even.cut neg (m <<< (e - (max (e + (m.log2 : Int) - (single.fractionBits : Int)) single.leastPlace)).toNat) ((max (e + (m.log2 : Int) - (single.fractionBits : Int)) single.leastPlace) - e).toNat) single.infRung) = _
    have hx := sgl_in
    have hy := sgl_lp
    have hz := sgl_bi
    generalize single.infRung = I at hx ⊢
    generalize single.leastPlace = P at hy ⊢
    generalize single.binade = B at hz ⊢
    rw [cut_RE]
    subst hy
    rw [hx, hz]
    refine congrArg (single.word neg) ?_
    unfold rungN
    rw [log2_mul_pow hm, show (single.fractionBits : Int) = 23 from rfl]
    generalize hk : (e + 149 + q).toNat = k
    generalize hL : max (e + (m.log2 : Int) - 23) (-149) = last
    have hD : ((max (m.log2 + k - 23) q : Nat) : Int) = last + 149 + q := by omega
    generalize max (m.log2 + k - 23) q = D at hD
    have h1 : (last - -149).toNat = D - q := by omega
    rw [h1]
    congr 2
    rcases Int.le_total last e with h | h
    · have e1 : (last - e).toNat = 0 := by omega
      have e2 : k = (e - last).toNat + D := by omega
      rw [e1, Nat.pow_zero, RE_one, e2, Nat.pow_add, ← Nat.mul_assoc, RE_int (Nat.two_pow_pos _), Nat.shiftLeft_eq]
    · have e1 : (e - last).toNat = 0 := by omega
      have e2 : D = (last - e).toNat + k := by omega
      rw [e1, e2, Nat.pow_add, RE_scale (Nat.two_pow_pos _) (Nat.two_pow_pos _)]
      rfl

theorem rungN_mono {q N M : Nat} (h : N ≤ M) : rungN q N ≤ rungN q M := by
  unfold rungN
  have hl : N.log2 ≤ M.log2 := by
    by_cases hN : N = 0
    · subst hN; exact Nat.zero_le _
    · have h1 := Nat.log2_self_le hN
      rw [Nat.le_log2 (by omega)]; omega
  have key : (max (N.log2 - 23) q - q) * 8388608 + RE N (2 ^ max (N.log2 - 23) q) ≤ (max (M.log2 - 23) q - q) * 8388608 + RE M (2 ^ max (M.log2 - 23) q) := by
    rcases Nat.lt_or_ge (max (N.log2 - 23) q) (max (M.log2 - 23) q) with hD | hD
    · have eM : max (M.log2 - 23) q = M.log2 - 23 := by omega
      have hM : M ≠ 0 := by intro h0; subst h0; rw [show Nat.log2 0 = 0 from rfl] at eM hD; omega
      have a := Nat.log2_self_le hM
      have b := Nat.lt_log2_self (n := N)
      generalize hd : max (N.log2 - 23) q = D at hD
      generalize hd' : max (M.log2 - 23) q = D' at hD eM
      have u : RE N (2 ^ D) ≤ 16777216 := by
        have : N ≤ 16777216 * 2 ^ D := by
          have e : 16777216 * 2 ^ D = 2 ^ (24 + D) := by rw [Nat.pow_add]
          have : 2 ^ (N.log2 + 1) ≤ 2 ^ (24 + D) := Nat.pow_le_pow_right (by omega) (by omega)
          omega
        have := RE_mono (a := N) (b := 2 ^ D) (a' := 16777216 * 2 ^ D) (b' := 2 ^ D) (Nat.two_pow_pos _) (Nat.two_pow_pos _) (Nat.mul_le_mul_right _ this)
        rwa [RE_int (Nat.two_pow_pos _)] at this
      have l : 8388608 ≤ RE M (2 ^ D') := by
        have : 8388608 * 2 ^ D' ≤ M := by
          have e : 8388608 * 2 ^ D' = 2 ^ (23 + D') := by rw [Nat.pow_add]
          rw [e, show 23 + D' = M.log2 by omega]; exact a
        have := RE_mono (a' := M) (b' := 2 ^ D') (a := 8388608 * 2 ^ D') (b := 2 ^ D') (Nat.two_pow_pos _) (Nat.two_pow_pos _) (Nat.mul_le_mul_right _ this)
        rwa [RE_int (Nat.two_pow_pos _)] at this
      omega
    · have e : max (N.log2 - 23) q = max (M.log2 - 23) q := by omega
      rw [e]
      exact Nat.add_le_add_left (RE_mono (Nat.two_pow_pos _) (Nat.two_pow_pos _) (Nat.mul_le_mul_right _ h)) _
  omega

/-- the value of a rung, in least floats -/
def valR (r : Nat) : Nat := if r < 8388608 then r else (8388608 + r % 8388608) * 2 ^ (r / 8388608 - 1)

theorem rungN_val {r : Nat} (h : r < 2139095040) : rungN 0 (valR r) = r := by
  unfold valR
  by_cases h1 : r < 8388608
  · rw [if_pos h1]
    unfold rungN
    have hl : r.log2 < 23 := by
      by_cases h0 : r = 0
      · subst h0; decide
      · exact (Nat.log2_lt h0).2 (by omega)
    rw [show max (r.log2 - 23) 0 = 0 by omega, Nat.pow_zero, RE_one]
    omega
  · rw [if_neg h1]
    unfold rungN
    have hm : 8388608 + r % 8388608 ≠ 0 := by omega
    have hl : (8388608 + r % 8388608).log2 = 23 := by
      rw [Nat.log2_eq_iff hm]
      have := Nat.mod_lt r (show 8388608 > 0 by omega)
      exact ⟨by omega, by omega⟩
    rw [log2_mul_pow hm, hl, show max (23 + (r / 8388608 - 1) - 23) 0 = r / 8388608 - 1 by omega, RE_int (Nat.two_pow_pos _)]
    have := Nat.div_add_mod r 8388608
    omega
theorem valR_mono {r s : Nat} (hr : r < 2139095040) (hs : s < 2139095040) (h : r ≤ s) : valR r ≤ valR s := by
  refine Nat.le_of_not_lt fun hlt => ?_
  have := rungN_mono (q := 0) (Nat.le_of_lt hlt)
  rw [rungN_val hr, rungN_val hs] at this
  have : r = s := by omega
  subst this
  omega
theorem valR_le {r s : Nat} (hr : r < 2139095040) (hs : s < 2139095040) : valR r ≤ valR s ↔ r ≤ s := by
  constructor
  · intro h
    have := rungN_mono (q := 0) h
    rwa [rungN_val hr, rungN_val hs] at this
  · exact valR_mono hr hs
theorem valR_inj {r s : Nat} (hr : r < 2139095040) (hs : s < 2139095040) (h : valR r = valR s) : r = s := by
  have h1 := (valR_le hr hs).1 (Nat.le_of_eq h)
  have h2 := (valR_le hs hr).1 (Nat.le_of_eq h.symm)
  omega

/-- p is finite and not negative, N least floats -/
def HV (p N : Nat) : Prop := ∃ s m e, single.read p = .number s m e ∧ (s = true → m = 0) ∧ -149 ≤ e ∧ N = m * 2 ^ (e + 149).toNat

theorem read_rung (neg : Bool) {r : Nat} (h : r < 2139095040) : ∃ m e, single.read (single.word neg r) = .number neg m e ∧ -149 ≤ e ∧ valR r = m * 2 ^ (e + 149).toNat := by
  unfold Format.read valR
  rw [sgl_sw, sgl_bi, sgl_in, word_mod neg (by omega), word_div neg (by omega)]
  simp only []
  by_cases h1 : r < 8388608
  · rw [if_pos h1, if_pos h1]
    exact ⟨_, _, rfl, by rw [sgl_lp]; omega, by rw [sgl_lp]; simp⟩
  · rw [if_neg h1, if_pos h, if_neg h1]
    refine ⟨_, _, rfl, by rw [sgl_lp]; omega, ?_⟩
    rw [sgl_lp]
    congr 2
    omega
theorem HV_rung {neg : Bool} {r : Nat} (h : r < 2139095040) (hz : neg = true → r = 0) : HV (single.word neg r) (valR r) := by
  obtain ⟨m, e, h1, h2, h3⟩ := read_rung neg h
  refine ⟨neg, m, e, h1, fun hn => ?_, h2, h3⟩
  have h0 := hz hn
  subst h0
  rw [show valR 0 = 0 from rfl] at h3
  rcases Nat.mul_eq_zero.1 h3.symm with h | h
  · exact h
  · have := Nat.two_pow_pos (e + 149).toNat; omega
theorem HV_nn {p N : Nat} (h : HV p N) : nn p = true := by
  obtain ⟨s, m, e, h1, h2, _, _⟩ := h
  rw [nn_iff, h1]
  cases s with
  | true => rw [h2 rfl]; exact .zero _ _
  | false => exact .pos _ _
theorem HV_nan {p N : Nat} (h : HV p N) : nan p = false := nn_nan (HV_nn h)

theorem signed_nn {s : Bool} {m k : Nat} (h : s = true → m = 0) : signed s m k = ((m * 2 ^ k : Nat) : Int) := by
  cases s with
  | true => rw [h rfl, signed_zero]; simp
  | false => exact signed_false m k

theorem HV_order {p q N M : Nat} (hp : HV p N) (hq : HV q M) : single.order p q = some (compare N M) := by
  obtain ⟨s, m, e, h1, h2, h3, rfl⟩ := hp
  obtain ⟨t, n, f, k1, k2, k3, rfl⟩ := hq
  unfold Format.order
  rw [h1, k1]
  simp only [Datum.order, signed_nn h2, signed_nn k2]
  congr 1
  have P : 0 < 2 ^ (min e f + 149).toNat := Nat.two_pow_pos _
  have a1 : m * 2 ^ (e + 149).toNat = m * 2 ^ (e - min e f).toNat * 2 ^ (min e f + 149).toNat := by
    rw [Nat.mul_assoc, ← Nat.pow_add]; congr 2; omega
  have a2 : n * 2 ^ (f + 149).toNat = n * 2 ^ (f - min e f).toNat * 2 ^ (min e f + 149).toNat := by
    rw [Nat.mul_assoc, ← Nat.pow_add]; congr 2; omega
  rw [a1, a2]
  generalize m * 2 ^ (e - min e f).toNat = x
  generalize n * 2 ^ (f - min e f).toNat = y
  generalize 2 ^ (min e f + 149).toNat = z at P
  rcases Nat.lt_trichotomy x y with h | h | h
  · have : x * z < y * z := Nat.mul_lt_mul_of_pos_right h P
    rw [Int.compare_eq_lt.2 (by omega), Nat.compare_eq_lt.2 this]
  · subst h
    rw [Int.compare_eq_eq.2 rfl, Nat.compare_eq_eq.2 rfl]
  · have : y * z < x * z := Nat.mul_lt_mul_of_pos_right h P
    rw [Int.compare_eq_gt.2 (by omega), Nat.compare_eq_gt.2 this]
theorem HV_flt {p q N M : Nat} (hp : HV p N) (hq : HV q M) : flt p q = decide (N < M) := by
  unfold flt
  rw [HV_order hp hq]
  rcases Nat.lt_trichotomy N M with h | h | h
  · rw [Nat.compare_eq_lt.2 h]; simp [h]
  · rw [Nat.compare_eq_eq.2 h]; subst h; simp
  · rw [Nat.compare_eq_gt.2 h]
    have : ¬ N < M := by omega
    simp [this]
theorem HV_feq {p q N M : Nat} (hp : HV p N) (hq : HV q M) : feq p q = decide (N = M) := by
  unfold feq
  rw [HV_order hp hq]
  rcases Nat.lt_trichotomy N M with h | h | h
  · rw [Nat.compare_eq_lt.2 h]
    have : ¬ N = M := by omega
    simp [this]
  · rw [Nat.compare_eq_eq.2 h]; simp [h]
  · rw [Nat.compare_eq_gt.2 h]
    have : ¬ N = M := by omega
    simp [this]
theorem HV_fle {p q N M : Nat} (hp : HV p N) (hq : HV q M) : fle p q = decide (N ≤ M) := by
  unfold fle
  rw [HV_flt hp hq, HV_feq hp hq]
  rcases Nat.lt_trichotomy N M with h | h | h
  · have : N ≤ M := by omega
    simp [h, this]
  · subst h; simp
  · have h1 : ¬ N < M := by omega
    have h2 : ¬ N = M := by omega
    have h3 : ¬ N ≤ M := by omega
    simp [h1, h2, h3]
theorem HV_zero : HV 0 0 := ⟨false, 0, -149, read_zero, fun _ => rfl, by omega, by simp⟩
theorem val_one : valR 1065353216 = 2 ^ 149 := by decide +kernel
theorem HV_one : HV 1065353216 (2 ^ 149) := by
  have := HV_rung (neg := false) (r := 1065353216) (by omega) (fun h => by cases h)
  rw [val_one] at this
  exact this
/-- a float that is not negative and not above one that has a value has a value -/
theorem HV_le {p q M : Nat} (h : nn p = true) (h1 : fle p q = true) (hq : HV q M) : ∃ N, HV p N ∧ N ≤ M := by
  have hx : ∃ N, HV p N := by
    have h2 := (nn_iff p).1 h
    obtain ⟨t, n, f, k1, k2, k3, _⟩ := hq
    unfold nn at h
    unfold fle flt feq Format.order at h1
    rw [k1] at h1
    have key : ∀ s m e, single.read p = .number s m e → (s = true → m = 0) → ∃ N, HV p N := by
      intro s m e hr hs
      refine ⟨m * 2 ^ (e + 149).toNat, s, m, e, hr, hs, ?_, rfl⟩
      unfold Format.read at hr
      simp only [] at hr
      split at hr
      · injection hr with _ _ h; rw [← h, sgl_lp]; omega
      · split at hr
        · injection hr with _ _ h; rw [← h, sgl_lp]; omega
        · split at hr <;> cases hr
    cases hp : single.read p with
    | nan s t => rw [hp] at h2; cases h2
    | infinity s =>
      rw [hp] at h2 h1
      cases h2
      simp [Datum.order] at h1
    | number s m e =>
      rw [hp] at h2
      cases h2 with
      | zero s e => exact key s 0 e hp (fun _ => rfl)
      | pos m e => exact key false m e hp (fun h => by cases h)
  obtain ⟨N, hN⟩ := hx
  rw [HV_fle hN hq] at h1
  exact ⟨N, hN, by simpa using h1⟩
theorem part_HV {p : Nat} (h : isPart p = true) : ∃ N, HV p N ∧ N ≤ 2 ^ 149 := by
  unfold isPart at h
  rw [Bool.and_eq_true] at h
  exact HV_le h.1 h.2 HV_one
theorem HV_part {p N : Nat} (h : HV p N) (hN : N ≤ 2 ^ 149) : isPart p = true := by
  unfold isPart
  rw [HV_fle HV_zero h, HV_fle h HV_one]
  simp [hN]

/-- what N units round to, in least floats -/
def rnd (q N : Nat) : Nat := valR (rungN q N)
theorem rung_le {q N r : Nat} (hr : r < 2139095040) (h : N ≤ valR r * 2 ^ q) : rungN q N ≤ r := by
  have h1 := rungN_mono (q := q) h
  have h2 : rungN q (valR r * 2 ^ q) = r := by
    have a : rungN 0 (valR r) = r := rungN_val hr
    have e1 := nearest_rung (neg := false) (m := valR r) (e := -149) (q := 0) (by omega)
    have e2 := nearest_rung (neg := false) (m := valR r) (e := -149) (q := q) (by omega)
    rw [e1] at e2
    simp only [Format.word, Bool.false_eq_true, if_false] at e2
    have x1 : ((-149 : Int) + 149 + (0 : Nat)).toNat = 0 := by omega
    have x2 : ((-149 : Int) + 149 + (q : Nat)).toNat = q := by omega
    rw [x1, x2, Nat.pow_zero, Nat.mul_one, a] at e2
    exact e2.symm
  omega
theorem HV_exact {p N : Nat} (h : HV p N) : ∃ r, r < 2139095040 ∧ N = valR r := by
  obtain ⟨s, m, e, h1, h2, h3, rfl⟩ := h
  unfold Format.read at h1
  rw [sgl_sw, sgl_bi, sgl_in, sgl_lp] at h1
  simp only [] at h1
  refine ⟨p % 2147483648, ?_⟩
  unfold valR
  split at h1
  · rename_i hlt
    injection h1 with _ hm he
    rw [if_pos hlt, ← hm, ← he]
    exact ⟨by omega, by simp⟩
  · rename_i hge
    split at h1
    · rename_i hlt
      injection h1 with _ hm he
      rw [if_neg hge, ← hm, ← he]
      refine ⟨hlt, ?_⟩
      congr 2
      omega
    · split at h1 <;> cases h1
theorem rnd_exact {p N : Nat} (h : HV p N) (q : Nat) : rnd q (N * 2 ^ q) = N := by
  obtain ⟨r, hr, rfl⟩ := HV_exact h
  unfold rnd
  have h1 := rung_le (q := q) hr (Nat.le_refl _)
  have a : rungN 0 (valR r) = r := rungN_val hr
  have e1 := nearest_rung (neg := false) (m := valR r) (e := -149) (q := 0) (by omega)
  have e2 := nearest_rung (neg := false) (m := valR r) (e := -149) (q := q) (by omega)
  rw [e1] at e2
  simp only [Format.word, Bool.false_eq_true, if_false] at e2
  have x1 : ((-149 : Int) + 149 + (0 : Nat)).toNat = 0 := by omega
  have x2 : ((-149 : Int) + 149 + (q : Nat)).toNat = q := by omega
  rw [x1, x2, Nat.pow_zero, Nat.mul_one, a] at e2
  rw [← e2]
/-- rounding keeps below a float -/
theorem HV_near {neg : Bool} {m : Nat} {e : Int} {q B b : Nat} (he : -149 - (q : Int) ≤ e) (hz : neg = true → m = 0) (hb : HV b B) (h : m * 2 ^ (e + 149 + q).toNat ≤ B * 2 ^ q) :
    HV (single.nearest neg m e) (rnd q (m * 2 ^ (e + 149 + q).toNat)) ∧ rnd q (m * 2 ^ (e + 149 + q).toNat) ≤ B := by
  obtain ⟨r, hr, rfl⟩ := HV_exact hb
  have h1 := rung_le hr h
  rw [nearest_rung he]
  refine ⟨HV_rung (by omega) (fun hn => ?_), valR_mono (by omega) hr h1⟩
  rw [hz hn, Nat.zero_mul]
  have := rung_le (q := q) (r := 0) (N := 0) (by omega) (by omega)
  omega
theorem rnd_mono {q N M B b : Nat} (h : N ≤ M) (hb : HV b B) (hM : M ≤ B * 2 ^ q) : rnd q N ≤ rnd q M := by
  obtain ⟨r, hr, rfl⟩ := HV_exact hb
  have h1 := rung_le hr hM
  have h2 := rungN_mono (q := q) h
  exact valR_mono (by omega) (by omega) h2
end Go.Sl
