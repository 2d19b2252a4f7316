/- Halving: half of a sum by a product or by a quotient is the same float. -/
import Derived.Test.YtlkpkenbfaiinaaSlZ
namespace Go.Sl
open Ieee

abbrev fhalf : Nat := 1056964608
abbrev ftwo : Nat := 1073741824
theorem val_half : HV fhalf (2 ^ 148) := by
  have := HV_rung (neg := false) (r := 1056964608) (by omega) (fun h => by cases h)
  rwa [show valR 1056964608 = 2 ^ 148 by decide +kernel] at this
theorem read_half : single.read fhalf = .number false 8388608 (-24) := by decide +kernel
theorem read_two : single.read ftwo = .number false 8388608 (-22) := by decide +kernel

theorem half_div {p N : Nat} (h : HV p N) : floatBits .quo .f32 p ftwo = floatBits .mul .f32 fhalf p := by
  obtain ⟨s, m, e, h1, h2, h3, _⟩ := h
  show single.div p ftwo = single.mul fhalf p
  unfold Format.div Format.mul
  rw [h1, read_half, read_two]
  have hm : m < 16777216 := (single_number h1).1
  have hl : m.log2 ≤ 23 := by
    by_cases h0 : m = 0
    · subst h0; decide
    · have := (Nat.log2_lt h0).2 (show m < 2 ^ 24 by omega); omega
  have hf : single.fractionBits = 23 := rfl
  have hlog : Nat.log2 8388608 = 23 := by decide +kernel
  show some (single.write (.number (s ^^ false) _ _)) = some (single.write (.number (false ^^ s) _ _))
  congr 1
  show single.nearest (s ^^ false) _ _ = single.nearest (false ^^ s) _ _
  rw [hf, hlog]
  generalize hk : 23 + 2 + 23 - m.log2 = k
  have hk25 : 25 ≤ k := by omega
  have hk48 : k ≤ 48 := by omega
  have e1 : m <<< k = m * 2 ^ (k - 23) * 8388608 := by
    rw [Nat.shiftLeft_eq, Nat.mul_assoc, show (8388608 : Nat) = 2 ^ 23 from rfl, ← Nat.pow_add]
    congr 2; omega
  rw [e1, Nat.mul_div_cancel _ (by omega), Nat.mul_mod_left]
  have e2 : (s ^^ false) = (false ^^ s) := by cases s <;> rfl
  rw [e2, nearest_rung (q := 200) (by omega), nearest_rung (q := 200) (by omega)]
  refine congrArg (fun x => single.word _ (rungN 200 x)) ?_
  simp only [bne_self_eq_false, Bool.toNat_false, Nat.add_zero]
  rw [Nat.mul_comm 2, Nat.mul_assoc, Nat.mul_assoc, Nat.mul_comm 8388608 m, Nat.mul_assoc]
  refine congrArg (m * ·) ?_
  rw [show (8388608 : Nat) = 2 ^ 23 from rfl, ← Nat.pow_add, show (2 : Nat) * 2 ^ (e - -22 - (k : Int) - 1 + 149 + (200 : Nat)).toNat = 2 ^ ((e - -22 - (k : Int) - 1 + 149 + (200 : Nat)).toNat + 1) from (by rw [Nat.pow_succ, Nat.mul_comm]), ← Nat.pow_add]
  congr 1
  omega

theorem part_one : isPart fone = true := by decide +kernel
theorem part_zero : isPart 0 = true := by decide +kernel
def half2 (lo hi : Nat) : Nat := fmul fhalf (fadd lo hi)
theorem half_ok {lo hi : Nat} (h : isPart lo = true) (k : isPart hi = true) : floatBits .add .f32 lo hi = some (fadd lo hi) ∧ floatBits .mul .f32 fhalf (fadd lo hi) = some (half2 lo hi) ∧ floatBits .quo .f32 (fadd lo hi) ftwo = some (half2 lo hi) ∧ isPart (half2 lo hi) = true := by
  obtain ⟨N, h1, h2⟩ := part_HV h
  obtain ⟨M, k1, k2⟩ := part_HV k
  obtain ⟨a, b, c⟩ := HV_add h1 k1 val_two (by rw [show 2 ^ 150 = 2 ^ 149 + 2 ^ 149 by decide]; omega)
  obtain ⟨a2, b2, c2⟩ := HV_mul val_half b HV_one (by rw [show 2 ^ 149 * 2 ^ 149 = 2 ^ 148 * 2 ^ 150 by decide]; exact Nat.mul_le_mul_left _ c)
  exact ⟨a, a2, by rw [half_div b]; exact a2, HV_part b2 c2⟩
def halveTo (P : Nat → Bool) : Nat → Nat × Nat
  | 0 => (0, fone)
  | k + 1 => if P (half2 (halveTo P k).1 (halveTo P k).2) then ((halveTo P k).1, half2 (halveTo P k).1 (halveTo P k).2) else (half2 (halveTo P k).1 (halveTo P k).2, (halveTo P k).2)
theorem halveTo_part (P : Nat → Bool) : ∀ k, isPart (halveTo P k).1 = true ∧ isPart (halveTo P k).2 = true
  | 0 => ⟨part_zero, part_one⟩
  | k + 1 => by
    obtain ⟨h1, h2⟩ := halveTo_part P k
    have h3 := (half_ok h1 h2).2.2.2
    rw [halveTo]
    split
    · exact ⟨h1, h3⟩
    · exact ⟨h3, h2⟩
theorem halveTo_t {P : Nat → Bool} {k : Nat} (h : P (half2 (halveTo P k).1 (halveTo P k).2) = true) : (halveTo P (k + 1)).1 = (halveTo P k).1 ∧ (halveTo P (k + 1)).2 = half2 (halveTo P k).1 (halveTo P k).2 := by
  rw [halveTo, if_pos h]; exact ⟨rfl, rfl⟩
theorem halveTo_f {P : Nat → Bool} {k : Nat} (h : P (half2 (halveTo P k).1 (halveTo P k).2) = false) : (halveTo P (k + 1)).1 = half2 (halveTo P k).1 (halveTo P k).2 ∧ (halveTo P (k + 1)).2 = (halveTo P k).2 := by
  rw [halveTo, if_neg (by rw [h]; simp)]; exact ⟨rfl, rfl⟩
theorem part_cmp {a b : Nat} (h : isPart a = true) (k : isPart b = true) : flt b a = !fle a b := by
  obtain ⟨N, h1, _⟩ := part_HV h
  obtain ⟨M, k1, _⟩ := part_HV k
  rw [HV_flt k1 h1, HV_fle h1 k1]
  by_cases hc : N ≤ M
  · have : ¬ M < N := by omega
    simp [hc, this]
  · have : M < N := by omega
    simp [hc, this]
def coolP (n : Nat) (rs : List Nat) (g p m c : Nat) : Bool := fle (ripeTo rs c g p 0 n) m
def gasP (n : Nat) (rs : List Nat) (c p m g : Nat) : Bool := fle m (ripeTo rs c g p 0 n)
def forV (P : Nat → Bool) : Nat := if P fone then (halveTo P 30).2 else 0
def forC (P : Nat → Bool) : Int := if P fone then 0 else 6
def coolV (n : Int) (rs : List Nat) (g p m : Nat) : Nat := if okV n rs [g, p, m] then forV (coolP n.toNat rs g p m) else 0
def coolC (n : Int) (rs : List Nat) (g p m : Nat) : Int := if okV n rs [g, p, m] then forC (coolP n.toNat rs g p m) else askC n rs [g, p, m]
def gasV (n : Int) (rs : List Nat) (c p m : Nat) : Nat := if okV n rs [c, p, m] then forV (gasP n.toNat rs c p m) else 0
def gasC (n : Int) (rs : List Nat) (c p m : Nat) : Int := if okV n rs [c, p, m] then forC (gasP n.toNat rs c p m) else askC n rs [c, p, m]
theorem forV_nan (P : Nat → Bool) : nan (forV P) = false := by
  unfold forV
  split
  · exact nn_nan (part_nn (halveTo_part P 30).2)
  · exact nn_nan nn_zero
theorem coolV_nan {n : Int} {rs : List Nat} {g p m : Nat} : nan (coolV n rs g p m) = false := by
  unfold coolV
  split
  · exact forV_nan _
  · exact nn_nan nn_zero
theorem gasV_nan {n : Int} {rs : List Nat} {c p m : Nat} : nan (gasV n rs c p m) = false := by
  unfold gasV
  split
  · exact forV_nan _
  · exact nn_nan nn_zero
theorem cool_cmp {n : Nat} {rs : List Nat} {g p m : Nat} (hv : vCrate (n : Int) rs = true) (hg : isPart g = true) (hp : isPart p = true) (hm : isPart m = true) : flt m (ripeTo rs fone g p 0 n) = !coolP n rs g p m fone :=
  part_cmp (ripeTo_part hv part_one hg hp n (by omega)) hm
theorem gas_cmp {n : Nat} {rs : List Nat} {c p m : Nat} (hv : vCrate (n : Int) rs = true) (hc : isPart c = true) (hp : isPart p = true) (hm : isPart m = true) : flt (ripeTo rs c fone p 0 n) m = !gasP n rs c p m fone :=
  part_cmp hm (ripeTo_part hv hc part_one hp n (by omega))
end Go.Sl
