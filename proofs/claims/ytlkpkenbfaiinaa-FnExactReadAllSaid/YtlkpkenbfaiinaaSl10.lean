/- Insertion sort. -/
import Derived.Test.YtlkpkenbfaiinaaSl9
namespace Go.Sl
def insD (c : Int → Int → Int) : Nat → List Int → List Int
  | 0, xs => xs
  | j + 1, xs => if c (xs.getD (j + 1) 0) (xs.getD j 0) < 0 then insD c j ((xs.set (j + 1) (xs.getD j 0)).set j (xs.getD (j + 1) 0)) else xs
theorem insD_t {c : Int → Int → Int} {xs : List Int} {j : Nat} (hj : 0 < j) (h : c (xs.getD j 0) (xs.getD (j - 1) 0) < 0) : insD c j xs = insD c (j - 1) ((xs.set j (xs.getD (j - 1) 0)).set (j - 1) (xs.getD j 0)) := by
  obtain ⟨i, rfl⟩ : ∃ i, j = i + 1 := ⟨j - 1, by omega⟩
  simp only [Nat.add_sub_cancel] at *
  rw [insD, if_pos h]
theorem insD_f {c : Int → Int → Int} {xs : List Int} {j : Nat} (h : ¬ c (xs.getD j 0) (xs.getD (j - 1) 0) < 0) : insD c j xs = xs := by
  cases j with
  | zero => rfl
  | succ i =>
    simp only [Nat.add_sub_cancel] at h
    rw [insD, if_neg h]
def sortTo (c : Int → Int → Int) (xs : List Int) : Nat → List Int
  | 0 => xs
  | k + 1 => insD c k (sortTo c xs k)
theorem all_swap {D : Int → Prop} {xs : List Int} {n j : Nat} (hn : xs.length = n) (h : ∀ i, i < n → D (xs.getD i 0)) (hj : 0 < j) (hjn : j < n) : ∀ i, i < n → D (((xs.set j (xs.getD (j - 1) 0)).set (j - 1) (xs.getD j 0)).getD i 0) := by
  intro i hi
  have e : ((xs.set j (xs.getD (j - 1) 0)).set (j - 1) (xs.getD j 0)).getD i 0 = if j - 1 = i then xs.getD j 0 else if j = i then xs.getD (j - 1) 0 else xs.getD i 0 := by
    simp only [List.getD_eq_getElem?_getD, List.getElem?_set, List.length_set]
    by_cases h1 : j - 1 = i
    · rw [if_pos h1, if_pos h1, if_pos (by omega)]; rfl
    · rw [if_neg h1, if_neg h1]
      by_cases h2 : j = i
      · rw [if_pos h2, if_pos h2, if_pos (by omega)]; rfl
      · rw [if_neg h2, if_neg h2]
  rw [e]
  split
  · exact h j hjn
  · split
    · exact h _ (by omega)
    · exact h i hi
end Go.Sl
