/- Voyages: how ripe a fruit is behind some days. -/
import Derived.Test.YtpanpkmheeenjaaSlV
import Derived.Test.YtpanpkmheeenjaaSlM
namespace Go.Sl

theorem told_zero {v t : Bool} : told v t = 0 ↔ v = true ∧ t = true := by cases v <;> cases t <;> simp [told]
theorem allN_succ {k : Nat} {p : Nat → Bool} : allN (k + 1) p = (allN k p && p k) := by
  unfold allN
  rw [List.range_succ, List.all_append]
  simp
def stepR (rs : List Nat) (c g p k : Nat) : Nat := grownF p (rateF (insideF (rs.getD k 0) c) g)
/-- the ripeness behind j days from day s on -/
def ripeTo (rs : List Nat) (c g p s : Nat) : Nat → Nat
  | 0 => p
  | j + 1 => stepR rs c g (ripeTo rs c g p s j) (s + j)
theorem ripeTo_succ {rs : List Nat} {c g p s j : Nat} : grownF (ripeTo rs c g p s j) (rateF (insideF (rs.getD (s + j) 0) c) g) = ripeTo rs c g p s (j + 1) := rfl
theorem step_part {n : Int} {rs : List Nat} {c g p k : Nat} (hv : vCrate n rs = true) (hc : isPart c = true) (hg : isPart g = true) (hp : isPart p = true) (hk : (k : Int) < n) :
    isPart (rs.getD k 0) = true ∧ isPart (insideF (rs.getD k 0) c) = true ∧ isRate (rateF (insideF (rs.getD k 0) c) g) ∧ isPart (stepR rs c g p k) = true := by
  have h1 := vAt_part hv hk
  have h2 := (inside_ok h1 hc).2
  have h3 := (rate_ok h2 hg).2
  exact ⟨h1, h2, h3, (grown_ok hp h3).2⟩
theorem ripeTo_part {n : Int} {rs : List Nat} {c g p s : Nat} (hv : vCrate n rs = true) (hc : isPart c = true) (hg : isPart g = true) (hp : isPart p = true) : ∀ (j : Nat), (s + j : Int) ≤ n → isPart (ripeTo rs c g p s j) = true
  | 0, _ => hp
  | j + 1, h => (step_part hv hc hg (ripeTo_part hv hc hg hp j (by omega)) (by omega)).2.2.2
def courseL (rs : List Nat) (c g p s j : Nat) : List Nat := (List.range j).map fun i => ripeTo rs c g p s (i + 1)
theorem courseL_len {rs : List Nat} {c g p s j : Nat} : (courseL rs c g p s j).length = j := by simp [courseL]
theorem courseL_succ {rs : List Nat} {c g p s j : Nat} : courseL rs c g p s j ++ [ripeTo rs c g p s (j + 1)] = courseL rs c g p s (j + 1) := by
  unfold courseL
  rw [List.range_succ, List.map_append]; rfl
theorem courseL_get {rs : List Nat} {c g p s j i : Nat} (h : i < j) : (courseL rs c g p s j).getD i 0 = ripeTo rs c g p s (i + 1) := by
  unfold courseL
  simp [h]
end Go.Sl
