/- Chosen fruits: indices that are checked, their sum. -/
import Derived.Test.YtlkpkenbfaiinaaSl5
namespace Go.Sl
open Ieee
theorem sub_nn {p q M : Nat} (hp : nn p = true) (hq : HV q M) : floatBits .sub .f32 p q = some (fsub p q) ∧ nan (fsub p q) = false := by
  have h1 := (nn_iff p).1 hp
  obtain ⟨t, n, j, h2, _⟩ := hq
  have key : ∃ x, single.sub p q = some x ∧ nan x = false := by
    unfold Format.sub
    rw [h2]
    generalize single.read p = a at h1
    cases h1 with
    | zero s i => exact ⟨_, rfl, near_nan _ _ _⟩
    | pos m i => exact ⟨_, rfl, near_nan _ _ _⟩
    | inf => exact ⟨_, rfl, by decide⟩
  obtain ⟨x, h3, h4⟩ := key
  have : fsub p q = x := by unfold fsub; rw [h3]; rfl
  rw [this]
  exact ⟨h3, h4⟩
theorem weight_HV {p : Nat} (h : isWeight p = true) : ∃ N, HV p N := by
  have hn := weight_nn h
  unfold isWeight at h
  rw [Bool.and_eq_true] at h
  have h1 := HV_rung (neg := false) (r := 1115684864) (by decide) (fun h => by cases h)
  have e : single.word false 1115684864 = 1115684864 := by decide
  rw [e] at h1
  obtain ⟨N, h2, _⟩ := HV_le hn h.2 h1
  exact ⟨N, h2⟩
def hasI (hs : List Int) (k : Nat) (x : Int) : Bool := (hs.take k).any fun y => decide (y = x)
theorem hasI_zero {hs : List Int} {x : Int} : hasI hs 0 x = false := rfl
theorem hasI_succ {hs : List Int} {k : Nat} {x : Int} (h : k < hs.length) : hasI hs (k + 1) x = (hasI hs k x || decide (hs.getD k 0 = x)) := by
  unfold hasI
  rw [take_succ_getD (d := 0) h, List.any_append]
  simp
theorem hasI_at {hs : List Int} {k i : Nat} {x : Int} (hi : i < k) (hk : k ≤ hs.length) (h : hs.getD i 0 = x) : hasI hs k x = true := by
  unfold hasI
  rw [List.any_eq_true]
  refine ⟨x, ?_, by simp⟩
  rw [← h]
  have : (hs.take k)[i]'(by simp; omega) = hs.getD i 0 := by simp [List.getD_eq_getElem?_getD, show i < hs.length by omega]
  rw [← this]
  exact List.getElem_mem _
theorem hasI_no {hs : List Int} {k : Nat} {x : Int} (hk : k ≤ hs.length) (h : ∀ i, i < k → hs.getD i 0 ≠ x) : hasI hs k x = false := by
  unfold hasI
  rw [List.any_eq_false]
  intro y hy
  obtain ⟨i, hi, rfl⟩ := List.getElem_of_mem hy
  have hi2 : i < k := by simp at hi; omega
  have := h i hi2
  simp only [List.getElem_take, decide_eq_true_eq]
  simpa [List.getD_eq_getElem?_getD, show i < hs.length by omega] using this
def okX (n : Nat) (hs : List Int) (k : Nat) : Bool := inR (hs.getD k 0) 0 ((n : Int) - 1) && !hasI hs k (hs.getD k 0)
def xOk (n : Nat) (hs : List Int) : Bool := allN hs.length (okX n hs)
theorem xOk_no {n : Nat} {hs : List Int} {k : Nat} (hk : k < hs.length) (h : okX n hs k = false) : xOk n hs = false := allN_no hk h
theorem xOk_yes {n : Nat} {hs : List Int} (h : ∀ i, i < hs.length → okX n hs i = true) : xOk n hs = true := allN_yes h
theorem okX_1 {n : Nat} {hs : List Int} {k : Nat} (h : inR (hs.getD k 0) 0 ((n : Int) - 1) = false) : okX n hs k = false := by unfold okX; rw [h]; rfl
theorem okX_2 {n : Nat} {hs : List Int} {k : Nat} (h : hasI hs k (hs.getD k 0) = true) : okX n hs k = false := by unfold okX; rw [h]; simp
theorem okX_3 {n : Nat} {hs : List Int} {k : Nat} (h : inR (hs.getD k 0) 0 ((n : Int) - 1) = true) (h2 : hasI hs k (hs.getD k 0) = false) : okX n hs k = true := by unfold okX; rw [h, h2]; rfl
theorem inR_lo {x a b : Int} (h : inR x a b = true) : a ≤ x ∧ x ≤ b := by
  unfold inR at h; simpa using h
theorem okX_lo {n : Nat} {hs : List Int} {k : Nat} (h : okX n hs k = true) : 0 ≤ hs.getD k 0 ∧ hs.getD k 0 ≤ (n : Int) - 1 := by
  unfold okX at h; rw [Bool.and_eq_true] at h; exact inR_lo h.1
def sumX (es : List Nat) (hs : List Int) : Nat → Nat
  | 0 => 0
  | k + 1 => fadd (sumX es hs k) (es.getD (hs.getD k 0).toNat 0)
theorem sumX_nn {es : List Nat} {hs : List Int} (hv : ∀ i, i < es.length → nn (es.getD i 0) = true) : ∀ k, (∀ j, j < k → okX es.length hs j = true) → nn (sumX es hs k) = true
  | 0, _ => nn_zero
  | k + 1, h => by
    have h1 := sumX_nn hv k (fun j hj => h j (by omega))
    have h2 := okX_lo (h k (by omega))
    exact (nn_add h1 (hv _ (by omega))).2
theorem sumX_add {es : List Nat} {hs : List Int} {k j : Nat} (hj : hs.getD k 0 = (j : Int)) (h1 : nn (sumX es hs k) = true) (h2 : nn (es.getD j 0) = true) : floatBits .add .f32 (sumX es hs k) (es.getD j 0) = some (sumX es hs (k + 1)) := by
  rw [sumX, hj]
  exact (nn_add h1 h2).1
def askW (es : List Nat) (w : Nat) : Int := if pileOk es then (if isWeight w then 0 else 2) else 1
theorem askW_ok {es : List Nat} {w : Nat} (h : askW es w = 0) : pileOk es = true ∧ isWeight w = true := by
  unfold askW at h
  split at h
  · rename_i h1
    split at h
    · rename_i h2; exact ⟨h1, h2⟩
    · cases h
  · cases h
def exC (es : List Nat) (hs : List Int) (w : Nat) : Int := if askW es w = 0 then (if xOk es.length hs then 0 else 2) else askW es w
def exF (es : List Nat) (hs : List Int) (w : Nat) : Nat := if exC es hs w = 0 then fsub (sumX es hs hs.length) w else 0
theorem ex_ne {es : List Nat} {hs : List Int} {w : Nat} (h : askW es w ≠ 0) : exC es hs w = askW es w ∧ exF es hs w = 0 := by
  have h1 : exC es hs w = askW es w := by unfold exC; rw [if_neg h]
  refine ⟨h1, ?_⟩
  unfold exF
  rw [h1, if_neg h]
theorem ex_bad {es : List Nat} {hs : List Int} {w : Nat} (h : askW es w = 0) (h2 : xOk es.length hs = false) : exC es hs w = 2 ∧ exF es hs w = 0 := by
  have h1 : exC es hs w = 2 := by unfold exC; rw [if_pos h, h2]; rfl
  refine ⟨h1, ?_⟩
  unfold exF
  rw [h1]; rfl
theorem ex_ok {es : List Nat} {hs : List Int} {w : Nat} (h : askW es w = 0) (h2 : xOk es.length hs = true) : exC es hs w = 0 ∧ exF es hs w = fsub (sumX es hs hs.length) w := by
  have h1 : exC es hs w = 0 := by unfold exC; rw [if_pos h, h2]; rfl
  refine ⟨h1, ?_⟩
  unfold exF
  rw [if_pos h1]
theorem exF_nan (es : List Nat) (hs : List Int) (w : Nat) : nan (exF es hs w) = false := by
  unfold exF
  split
  · rename_i h
    unfold exC at h
    split at h
    · rename_i h1
      split at h
      · rename_i h2
        obtain ⟨a, b⟩ := askW_ok h1
        obtain ⟨N, hN⟩ := weight_HV b
        exact (sub_nn (sumX_nn (pile_nn a) _ (fun j hj => allN_at h2 j hj)) hN).2
      · cases h
    · contradiction
  · decide
/- rows of truth values -/
def bl (b : Bool) : List Value := [.bool b]
theorem bl_len (b : Bool) : (bl b).length = 1 := rfl
def metL (n : Nat) (hs : List Int) (k : Nat) : List Bool := mapG (fun i => hasI hs k (i : Int)) n
theorem metL_zero {n : Nat} {hs : List Int} : metL n hs 0 = List.replicate n false := by
  unfold metL mapG
  rw [List.eq_replicate_iff]
  refine ⟨by simp, fun b hb => ?_⟩
  obtain ⟨i, _, rfl⟩ := List.mem_map.1 hb
  rfl
theorem zB {n : Nat} {hs : List Int} : (List.replicate n [Value.bool false]).flatten = fm bl (metL n hs 0) := by
  rw [metL_zero]
  exact fm_rep (f := bl) false n
theorem metL_at {n : Nat} {hs : List Int} {k j : Nat} (h : j < n) : (fm bl (metL n hs k))[0 + j * 1]? = some (.bool (hasI hs k (j : Int))) := by
  have h1 := fm_get bl_len false (es := metL n hs k) (i := j) (m := 0) (j := []) (by unfold metL; rw [mapG_len]; exact h) (by decide)
  rw [List.append_nil] at h1
  rw [show 0 + j * 1 = 0 + j * 1 + 0 by omega, h1]
  unfold metL
  rw [mapG_at h]
  rfl
theorem metL_set {n : Nat} {hs : List Int} {k j : Nat} (h : j < n) (hk : k < hs.length) (hj : hs.getD k 0 = (j : Int)) : (fm bl (metL n hs k)).set (0 + j * 1) (.bool true) = fm bl (metL n hs (k + 1)) := by
  have h1 : (fm bl (metL n hs k)).set (0 + j * 1) (.bool true) = putL (fm bl (metL n hs k)) (0 + j * 1) (bl true) := rfl
  rw [h1, fm_put' bl_len true (by unfold metL; rw [mapG_len]; exact h)]
  congr 1
  apply List.ext_getElem
  · unfold metL; simp [mapG_len]
  · intro i h2 h3
    have hi : i < n := by unfold metL at h3; rw [mapG_len] at h3; exact h3
    unfold metL mapG at *
    rw [List.getElem_set]
    simp only [List.getElem_map, List.getElem_range]
    rw [hasI_succ hk, hj]
    by_cases he : j = i
    · subst he; simp
    · rw [if_neg he]
      have : ¬ ((j : Int) = (i : Int)) := by omega
      simp [this]
end Go.Sl
