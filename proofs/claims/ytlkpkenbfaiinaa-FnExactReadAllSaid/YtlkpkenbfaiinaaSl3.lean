/- Holds that are checked; piles and their sums. -/
import Derived.Test.YtlkpkenbfaiinaaSl2
namespace Go.Sl
theorem rightG_len {es : List Gd} {hs : List Int} (h : hs.length ≠ es.length) : rightG es hs = false := by unfold rightG; simp [h]
theorem rightG_rng {es : List Gd} {hs : List Int} {i : Nat} (hi : i < hs.length) (h : inR (hs.getD i 0) 0 6 = false) : rightG es hs = false := by
  unfold rightG
  rw [allN_no hi h]; simp
theorem rightG_sh {es : List Gd} {hs : List Int} {k : Nat} (hk : k < 7) (h : shareG (inH es hs (k : Int) hs.length) = false) : rightG es hs = false := by
  unfold rightG
  rw [allN_no (n := 7) hk h]; simp
theorem rightG_yes {es : List Gd} {hs : List Int} (h : hs.length = es.length) (h1 : ∀ i, i < hs.length → inR (hs.getD i 0) 0 6 = true) (h2 : ∀ k : Nat, k < 7 → shareG (inH es hs (k : Int) hs.length) = true) : rightG es hs = true := by
  unfold rightG
  rw [allN_yes h1, allN_yes h2]; simp [h]
theorem any_at {α : Type} {p : α → Bool} {es : List α} (d : α) (h : es.any p = true) : ∃ i, i < es.length ∧ p (es.getD i d) = true := by
  obtain ⟨x, hx, hp⟩ := List.any_eq_true.1 h
  obtain ⟨i, hi, rfl⟩ := List.getElem_of_mem hx
  exact ⟨i, hi, by simpa [List.getD_eq_getElem?_getD, hi] using hp⟩
theorem any_no {α : Type} {p : α → Bool} {es : List α} (d : α) (h : es.any p = false) : ∀ i, i < es.length → p (es.getD i d) = false := fun i hi => by
  have := List.any_eq_false.1 h (es[i]) (List.getElem_mem hi)
  simpa [List.getD_eq_getElem?_getD, hi] using this
theorem rightG_any {es : List Gd} {hs : List Int} (h : (hs.any fun a => !inR a 0 6) = true) : rightG es hs = false := by
  obtain ⟨i, hi, h1⟩ := any_at 0 h
  exact rightG_rng hi (by simpa using h1)
theorem inR_any {hs : List Int} (h : (hs.any fun a => !inR a 0 6) = false) : ∀ i, i < hs.length → inR (hs.getD i 0) 0 6 = true := fun i hi => by
  have := any_no 0 h i hi
  simpa using this

theorem cmp_neg {a : Int} {x : Nat} (ha : 0 ≤ a) (h : (some (compare a (-(x : Int))) == some Ordering.lt || some (compare a (-(x : Int))) == some Ordering.eq) = true) : x = 0 := by
  rcases Nat.eq_zero_or_pos x with h0 | h0
  · exact h0
  · exfalso
    have : compare a (-(x : Int)) = .gt := by rw [Int.compare_eq_gt]; omega
    rw [this] at h; cases h
theorem nn_trans {a q : Nat} (h : nn a = true) (h1 : fle a q = true) : nn q = true := by
  have ha := (nn_iff a).1 h
  refine (nn_iff q).2 ?_
  unfold fle flt feq Ieee.Format.order at h1
  generalize Ieee.single.read a = x at *
  generalize Ieee.single.read q = y at *
  cases y with
  | nan s t => cases ha <;> simp [Ieee.Datum.order] at h1
  | infinity s =>
    cases s with
    | false => exact .inf
    | true => cases ha <;> simp [Ieee.Datum.order] at h1 <;> cases h1
  | number s m e =>
    cases s with
    | false => exact .pos m e
    | true =>
      have key : m = 0 := by
        cases ha with
        | zero s e2 =>
          simp only [Ieee.Datum.order, signed_zero, signed_true] at h1
          have := cmp_neg (Int.le_refl 0) h1
          rcases Nat.mul_eq_zero.1 this with h0 | h0
          · exact h0
          · have := Nat.two_pow_pos (e - min e2 e).toNat; omega
        | pos m2 e2 =>
          simp only [Ieee.Datum.order, signed_false, signed_true] at h1
          have := cmp_neg (Int.natCast_nonneg _) h1
          rcases Nat.mul_eq_zero.1 this with h0 | h0
          · exact h0
          · have := Nat.two_pow_pos (e - min e2 e).toNat; omega
        | inf => simp [Ieee.Datum.order] at h1
      rw [key]
      exact .zero _ _
/- piles -/
theorem weight_nn {p : Nat} (h : isWeight p = true) : nn p = true := by
  unfold isWeight at h
  rw [Bool.and_eq_true] at h
  exact nn_trans (show nn 1015021568 = true by decide) h.1
def sumP (es : List Nat) : Nat → Nat
  | 0 => 0
  | k + 1 => fadd (sumP es k) (es.getD k 0)
def pileOk (es : List Nat) : Bool := decide (es.length ≤ 10) && es.all isWeight
theorem sumP_nn {es : List Nat} (h : ∀ i, i < es.length → nn (es.getD i 0) = true) : ∀ k, k ≤ es.length → nn (sumP es k) = true
  | 0, _ => nn_zero
  | k + 1, hk => (nn_add (sumP_nn h k (by omega)) (h k (by omega))).2
theorem sumP_add {es : List Nat} (h : ∀ i, i < es.length → nn (es.getD i 0) = true) {k : Nat} (hk : k < es.length) : floatBits .add .f32 (sumP es k) (es.getD k 0) = some (sumP es (k + 1)) := (nn_add (sumP_nn h k (by omega)) (h k hk)).1
theorem pile_all {es : List Nat} (h : pileOk es = true) : es.length ≤ 10 ∧ ∀ i, i < es.length → isWeight (es.getD i 0) = true := by
  unfold pileOk at h
  simp only [Bool.and_eq_true, decide_eq_true_eq] at h
  exact ⟨h.1, fun i hi => getD_all h.2 hi 0⟩
theorem pile_nn {es : List Nat} (h : pileOk es = true) : ∀ i, i < es.length → nn (es.getD i 0) = true := fun i hi => weight_nn ((pile_all h).2 i hi)
theorem pile_no {es : List Nat} {i : Nat} (hi : i < es.length) (h : isWeight (es.getD i 0) = false) : pileOk es = false := by
  unfold pileOk
  have : es.all isWeight = false := by rw [← allN_all 0 isWeight es]; exact allN_no hi h
  rw [this]; simp
theorem pile_yes {es : List Nat} (h : ∀ i, i < es.length → isWeight (es.getD i 0) = true) : pileOk es = decide (es.length ≤ 10) := by
  unfold pileOk
  have : es.all isWeight = true := by rw [← allN_all 0 isWeight es]; exact allN_yes h
  rw [this]; simp
def pileSum (es : List Nat) : Nat := if pileOk es then sumP es es.length else 0
def pileCode (es : List Nat) : Int := if pileOk es then 0 else 1
theorem pileSum_nn (es : List Nat) : nn (pileSum es) = true := by
  unfold pileSum
  split
  · rename_i h; exact sumP_nn (pile_nn h) _ (Nat.le_refl _)
  · exact nn_zero
end Go.Sl
namespace Go.Sl
theorem In.mono_app {e : Nat × Obj} {X Y H : Hp} (h : In e X H) : In e (X ++ Y) H := by
  cases h with
  | h m => exact .h m
  | x m =>
    refine .x ?_
    induction m with
    | z => exact .z
    | s _ ih => exact .s ih
theorem In.app_mono {e : Nat × Obj} {X H : Hp} (h : In e X H) : ∀ (Y : Hp), In e (Y ++ X) H
  | [] => h
  | y :: Y => by
    cases In.app_mono h Y with
    | h m => exact .h m
    | x m => exact .x (.s m)
theorem insApp1 (X Y H : Hp) : Ins (X ++ Y) H X := by
  have : ∀ Z, Ins X H Z → Ins (X ++ Y) H Z := by
    intro Z h
    induction h with
    | z => exact .z
    | s i _ ih => exact .s i.mono_app ih
  exact this X (insSelf X H)
theorem insApp2 (X Y H : Hp) : Ins (X ++ Y) H Y := by
  have : ∀ Z, Ins Y H Z → Ins (X ++ Y) H Z := by
    intro Z h
    induction h with
    | z => exact .z
    | s i _ ih => exact .s (i.app_mono X) ih
  exact this Y (insSelf Y H)
end Go.Sl
