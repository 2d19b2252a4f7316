/- Sums of numbers that are not negative: they are never NaN. -/
import Derived.Test.YtlkpkenbfaiinaaSlS
namespace Go.Sl
open Ieee

theorem sgl_sw : single.signWeight = 2147483648 := by decide
theorem sgl_bi : single.binade = 8388608 := by decide
theorem sgl_in : single.infRung = 2139095040 := by decide
theorem sgl_lp : single.leastPlace = -149 := by decide

theorem word_mod (neg : Bool) {r : Nat} (h : r < 2147483648) : single.word neg r % 2147483648 = r := by
  unfold Format.word
  rw [sgl_sw]
  cases neg with
  | true => simp only [if_true]; omega
  | false => simp only [Bool.false_eq_true, if_false]; omega
theorem word_div (neg : Bool) {r : Nat} (h : r < 2147483648) : (single.word neg r / 2147483648 % 2 == 1) = neg := by
  unfold Format.word
  rw [sgl_sw]
  cases neg with
  | true =>
    simp only [if_true]
    have : (2147483648 + r) / 2147483648 % 2 = 1 := by omega
    rw [this]; rfl
  | false =>
    simp only [Bool.false_eq_true, if_false]
    have : r / 2147483648 % 2 = 0 := by omega
    rw [this]; rfl

/-- what a rung below infinity reads as -/
theorem read_word (neg : Bool) {r : Nat} (h : r < 2139095040) : ∃ m e, single.read (single.word neg r) = .number neg m e ∧ (m = 0 ↔ r = 0) := by
  unfold Format.read
  rw [sgl_sw, sgl_bi, sgl_in, word_mod neg (by omega), word_div neg (by omega)]
  simp only []
  by_cases h1 : r < 8388608
  · rw [if_pos h1]; exact ⟨_, _, rfl, Iff.rfl⟩
  · rw [if_neg h1, if_pos h]
    exact ⟨_, _, rfl, ⟨fun h2 => by omega, fun h2 => by omega⟩⟩
theorem read_inf (neg : Bool) : single.read (single.word neg 2139095040) = .infinity neg := by
  cases neg <;> decide

/-- at least 0, and a number -/
def nn (p : Nat) : Bool := fle 0 p

inductive NN : Datum → Prop
  | zero (s e) : NN (.number s 0 e)
  | pos (m e) : NN (.number false m e)
  | inf : NN (.infinity false)

theorem read_zero : single.read 0 = .number false 0 (-149) := by decide
theorem signed_zero (s : Bool) (k : Nat) : signed s 0 k = 0 := by unfold signed; cases s <;> simp
theorem signed_false (m k : Nat) : signed false m k = ((m * 2 ^ k : Nat) : Int) := by unfold signed; simp [Nat.shiftLeft_eq]
theorem signed_true (m k : Nat) : signed true m k = -((m * 2 ^ k : Nat) : Int) := by unfold signed; simp [Nat.shiftLeft_eq]

theorem nn_iff (p : Nat) : nn p = true ↔ NN (single.read p) := by
  unfold nn fle flt feq Format.order
  rw [read_zero]
  cases hp : single.read p with
  | nan s t => simp [Datum.order]; intro h; cases h
  | infinity s =>
    cases s with
    | true => simp [Datum.order]; intro h; cases h
    | false => simp [Datum.order]; exact .inf
  | number s m e =>
    simp only [Datum.order, signed_zero]
    cases s with
    | false =>
      rw [signed_false]
      constructor
      · intro _; exact .pos m e
      · intro _
        rcases Nat.eq_zero_or_pos (m * 2 ^ (e - min (-149) e).toNat) with h | h
        · rw [h]; decide
        · have : compare (0 : Int) ((m * 2 ^ (e - min (-149) e).toNat : Nat) : Int) = .lt := by
            rw [Int.compare_eq_lt]; omega
          rw [this]; rfl
    | true =>
      rw [signed_true]
      constructor
      · intro h
        have hz : m * 2 ^ (e - min (-149) e).toNat = 0 := by
          rcases Nat.eq_zero_or_pos (m * 2 ^ (e - min (-149) e).toNat) with h0 | h0
          · exact h0
          · exfalso
            have : compare (0 : Int) (-((m * 2 ^ (e - min (-149) e).toNat : Nat) : Int)) = .gt := by
              rw [Int.compare_eq_gt]; omega
            rw [this] at h; cases h
        rcases Nat.mul_eq_zero.1 hz with h0 | h0
        · rw [h0]; exact .zero _ _
        · have := Nat.two_pow_pos (e - min (-149) e).toNat; omega
      · intro h
        cases h
        simp

theorem nn_nan {p : Nat} (h : nn p = true) : nan p = false := by
  have := (nn_iff p).1 h
  unfold nan isNaN
  cases hp : single.read p with
  | nan s t => rw [hp] at this; cases this
  | _ => rfl

theorem nn_word {neg : Bool} {r : Nat} (h : r ≤ 2139095040) (hz : neg = true → r = 0) : nn (single.word neg r) = true := by
  rw [nn_iff]
  rcases Nat.lt_or_ge r 2139095040 with h1 | h1
  · obtain ⟨m, e, hr, hm⟩ := read_word neg h1
    rw [hr]
    cases neg with
    | true => rw [hm.2 (hz rfl)]; exact .zero _ _
    | false => exact .pos _ _
  · have : r = 2139095040 := by omega
    subst this
    rw [read_inf]
    cases neg with
    | true => have := hz rfl; omega
    | false => exact .inf

theorem nn_nearest {neg : Bool} {m : Nat} {e : Int} (hz : neg = true → m = 0) : nn (single.nearest neg m e) = true := by
  unfold Format.nearest
  split
  · exact nn_word (by omega) (fun _ => rfl)
  · rename_i h
    cases neg with
    | true => exact absurd (hz rfl) h
    | false => exact nn_word (by rw [sgl_in]; exact Nat.min_le_right _ _) (fun h => by cases h)

def fadd (p q : Nat) : Nat := (single.add p q).getD 0
def fsub (p q : Nat) : Nat := (single.sub p q).getD 0
def fmul (p q : Nat) : Nat := (single.mul p q).getD 0
def fdiv (p q : Nat) : Nat := (single.div p q).getD 0

theorem nn_add {p q : Nat} (hp : nn p = true) (hq : nn q = true) : floatBits .add .f32 p q = some (fadd p q) ∧ nn (fadd p q) = true := by
  have h1 := (nn_iff p).1 hp
  have h2 := (nn_iff q).1 hq
  have key : ∃ r, single.add p q = some r ∧ nn r = true := by
    unfold Format.add
    generalize single.read p = a at h1
    generalize single.read q = b at h2
    have num : ∀ (s t : Bool) (m n : Nat) (i j : Int), (s = true → m = 0) → (t = true → n = 0) → ∃ r, ((Datum.number s m i).sum (.number t n j)).map single.write = some r ∧ nn r = true := by
      intro s t m n i j hs ht
      refine ⟨_, rfl, ?_⟩
      show nn (single.nearest _ _ _) = true
      have e1 : ∀ k, (0 : Int) ≤ signed s m k := by
        intro k
        cases s with
        | true => rw [hs rfl, signed_zero]; omega
        | false => rw [signed_false]; omega
      have e2 : ∀ k, (0 : Int) ≤ signed t n k := by
        intro k
        cases t with
        | true => rw [ht rfl, signed_zero]; omega
        | false => rw [signed_false]; omega
      refine nn_nearest (fun hneg => ?_)
      have a1 := e1 (i - min i j).toNat
      have a2 := e2 (j - min i j).toNat
      split at hneg
      · rename_i h0; rw [h0]; rfl
      · simp only [decide_eq_true_eq] at hneg; omega
    cases h1 with
    | zero s e =>
      cases h2 with
      | zero t f => exact num s t 0 0 e f (fun _ => rfl) (fun _ => rfl)
      | pos n f => exact num s false 0 n e f (fun _ => rfl) (fun h => by cases h)
      | inf => exact ⟨_, rfl, by decide⟩
    | pos m e =>
      cases h2 with
      | zero t f => exact num false t m 0 e f (fun h => by cases h) (fun _ => rfl)
      | pos n f => exact num false false m n e f (fun h => by cases h) (fun h => by cases h)
      | inf => exact ⟨_, rfl, by decide⟩
    | inf =>
      cases h2 with
      | zero t f => exact ⟨_, rfl, by decide⟩
      | pos n f => exact ⟨_, rfl, by decide⟩
      | inf => exact ⟨_, rfl, by decide⟩
  obtain ⟨r, h3, h4⟩ := key
  have : fadd p q = r := by unfold fadd; rw [h3]; rfl
  rw [this]
  exact ⟨h3, h4⟩

theorem nn_zero : nn 0 = true := by decide
theorem part_nn {p : Nat} (h : isPart p = true) : nn p = true := by unfold isPart at h; rw [Bool.and_eq_true] at h; exact h.1
theorem price_nn {p : Nat} (h : isPrice p = true) : nn p = true := by unfold isPrice at h; rw [Bool.and_eq_true] at h; exact h.1
end Go.Sl
