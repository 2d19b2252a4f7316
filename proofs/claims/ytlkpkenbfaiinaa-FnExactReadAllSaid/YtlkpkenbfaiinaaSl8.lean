/- Quotients that are bounded; what a scale reads. -/
import Derived.Test.YtlkpkenbfaiinaaSl7
namespace Go.Sl
open Ieee
theorem HV_big : HV 1325400064 (2 ^ 180) := by
  have h := HV_rung (neg := false) (r := 1325400064) (by decide) (fun h => by cases h)
  have e : single.word false 1325400064 = 1325400064 := rfl
  rw [e] at h
  have e2 : valR 1325400064 = 2 ^ 180 := by decide +kernel
  rwa [e2] at h
theorem pow_split {a b c : Nat} (h : a + b = c) : 2 ^ a * 2 ^ b = 2 ^ c := by rw [← Nat.pow_add, h]
/-- the heart of the bound -/
theorem div_bound {A m n more Q x y z : Nat} {N M : Nat} (hA : A * n ≤ 2 * (m * 2 ^ more) + n) (h1 : N = m * 2 ^ x) (h2 : M = n * 2 ^ y) (hz : more + z + y = x + Q + 148) (hzb : z ≤ Q + 170) (hN : N ≤ 2 ^ 157) (hM : 2 ^ 143 ≤ M) (hn : 0 < n) : A * 2 ^ z ≤ 2 ^ (180 + Q) := by
  have hM0 : 0 < M := Nat.lt_of_lt_of_le (Nat.two_pow_pos _) hM
  refine Nat.le_of_mul_le_mul_right (c := M) ?_ hM0
  have a1 : A * 2 ^ z * M = A * n * 2 ^ (z + y) := by
    rw [h2, ← pow_split (rfl : z + y = z + y)]
    generalize 2 ^ z = u
    generalize 2 ^ y = v
    rw [Nat.mul_assoc, Nat.mul_assoc]
    congr 1
    rw [Nat.mul_left_comm]
  rw [a1]
  have a2 : A * n * 2 ^ (z + y) ≤ (2 * (m * 2 ^ more) + n) * 2 ^ (z + y) := Nat.mul_le_mul_right _ hA
  refine Nat.le_trans a2 ?_
  rw [Nat.add_mul]
  have b1 : 2 * (m * 2 ^ more) * 2 ^ (z + y) = N * 2 ^ (149 + Q) := by
    rw [h1, Nat.mul_assoc, Nat.mul_assoc, Nat.mul_assoc, Nat.mul_left_comm, ]
    congr 1
    rw [← Nat.pow_add, ← Nat.pow_add, ← Nat.pow_succ']
    congr 1
    omega
  have b2 : n * 2 ^ (z + y) = M * 2 ^ z := by
    rw [h2, Nat.mul_assoc, ← Nat.pow_add, Nat.add_comm y z]
  rw [b1, b2]
  have c1 : N * 2 ^ (149 + Q) ≤ 2 ^ (157 + (149 + Q)) := by
    rw [Nat.pow_add 2 157]
    exact Nat.mul_le_mul_right _ hN
  have c2 : 2 ^ (157 + (149 + Q)) ≤ 2 ^ (179 + Q) * M := by
    refine Nat.le_trans ?_ (Nat.mul_le_mul_left _ hM)
    rw [← Nat.pow_add]
    exact Nat.pow_le_pow_right (by decide) (by omega)
  have c3 : M * 2 ^ z ≤ 2 ^ (179 + Q) * M := by
    rw [Nat.mul_comm]
    exact Nat.mul_le_mul_right _ (Nat.pow_le_pow_right (by decide) (by omega))
  have c4 : 2 ^ (180 + Q) * M = 2 ^ (179 + Q) * M + 2 ^ (179 + Q) * M := by
    rw [show 180 + Q = (179 + Q) + 1 by omega, Nat.pow_succ, Nat.mul_two, Nat.add_mul]
  rw [c4]
  exact Nat.add_le_add (Nat.le_trans c1 c2) c3
theorem HV_div {p q N M : Nat} (hp : HV p N) (hq : HV q M) (hN : N ≤ 2 ^ 157) (hM : 2 ^ 143 ≤ M) :
    floatBits .quo .f32 p q = some (fdiv p q) ∧ ∃ X, HV (fdiv p q) X ∧ X ≤ 2 ^ 180 := by
  obtain ⟨s, m, i, h1, hs, hi, hNe⟩ := hp
  obtain ⟨t, n, j, h2, ht, hj, hMe⟩ := hq
  have hn : n ≠ 0 := by
    intro h0
    rw [h0, Nat.zero_mul] at hMe
    rw [hMe] at hM
    have := Nat.two_pow_pos 143
    omega
  have htf : t = false := by
    cases t with
    | false => rfl
    | true => exact absurd (ht rfl) hn
  subst htf
  generalize hmore : single.fractionBits + 2 + n.log2 - m.log2 = more
  generalize hσ : ((m <<< more) % n != 0).toNat = σ
  have hσ1 : σ ≤ 1 := by rw [← hσ]; cases ((m <<< more) % n != 0) <;> decide
  have hquo : single.div p q = some (single.nearest (s ^^ false) (2 * ((m <<< more) / n) + σ) (i - j - more - 1)) := by
    unfold Format.div
    rw [h1, h2]
    simp only [Datum.quotient, if_neg hn, hmore, hσ]
    rfl
  generalize hA : 2 * ((m <<< more) / n) + σ = A at hquo
  generalize hE : i - j - (more : Int) - 1 = E at hquo
  have hz0 : m = 0 → A = 0 := by
    intro h0
    rw [← hA, ← hσ, h0]
    simp
  have hfd : fdiv p q = single.nearest (s ^^ false) A E := by unfold fdiv; rw [hquo]; rfl
  have hsA : (s ^^ false) = true → A = 0 := fun h => hz0 (hs (by simpa using h))
  have hb : A * 2 ^ (E + 149 + (((-149 - E).toNat : Nat) : Int)).toNat ≤ 2 ^ 180 * 2 ^ (-149 - E).toNat := by
    generalize hQ : (-149 - E).toNat = Q
    rw [← Nat.pow_add]
    by_cases hm0 : m = 0
    · rw [hz0 hm0, Nat.zero_mul]; exact Nat.zero_le _
    · have hlm : m.log2 + (i + 149).toNat ≤ 157 := by
        have a : 2 ^ m.log2 ≤ m := Nat.log2_self_le hm0
        have b : 2 ^ (m.log2 + (i + 149).toNat) ≤ 2 ^ 157 := by
          rw [Nat.pow_add]
          refine Nat.le_trans (Nat.mul_le_mul_right _ a) ?_
          rw [← hNe]; exact hN
        exact (Nat.pow_le_pow_iff_right (by decide)).1 b
      have hln : 143 < n.log2 + 1 + (j + 149).toNat := by
        have a : n < 2 ^ (n.log2 + 1) := Nat.lt_log2_self
        have b : 2 ^ 143 < 2 ^ (n.log2 + 1 + (j + 149).toNat) := by
          refine Nat.lt_of_le_of_lt hM ?_
          rw [hMe, Nat.pow_add 2 (n.log2 + 1)]
          exact Nat.mul_lt_mul_of_pos_right a (Nat.two_pow_pos _)
        exact (Nat.pow_lt_pow_iff_right (by decide)).1 b
      have hfb : single.fractionBits = 23 := by decide
      rw [hfb] at hmore
      refine div_bound (m := m) (n := n) (more := more) (x := (i + 149).toNat) (y := (j + 149).toNat) (N := N) (M := M) ?_ hNe hMe ?_ ?_ hN hM (by omega)
      · rw [← hA, Nat.add_mul]
        have a : (m <<< more) / n * n ≤ m <<< more := Nat.div_mul_le_self _ _
        rw [Nat.shiftLeft_eq] at a ⊢
        have b : σ * n ≤ n := by
          have := Nat.mul_le_mul_right n hσ1
          omega
        rw [Nat.mul_assoc]
        omega
      · omega
      · omega
  have hnear := HV_near (neg := (s ^^ false)) (m := A) (e := E) (q := (-149 - E).toNat) (by omega) hsA HV_big hb
  rw [hfd]
  refine ⟨?_, _, hnear.1, hnear.2⟩
  exact hquo
end Go.Sl
