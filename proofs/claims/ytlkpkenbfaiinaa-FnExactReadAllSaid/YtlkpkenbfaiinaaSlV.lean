/- What the voyages' functions compute, in plain Lean. -/
import Derived.Test.YtlkpkenbfaiinaaSlO
namespace Go.Sl

theorem flt_irrefl (p : Nat) : flt p p = false := by
  unfold flt Ieee.Format.order Ieee.Datum.order
  cases Ieee.single.read p with
  | number s m i => simp
  | infinity s => simp
  | nan s t => simp
/-- the first of the ripest of the first k -/
def ripestTo (rs : List Nat) : Nat → Nat
  | 0 => 0
  | k + 1 => if flt (rs.getD (ripestTo rs k) 0) (rs.getD k 0) then k else ripestTo rs k
theorem ripestTo_t {rs : List Nat} {k : Nat} (h : flt (rs.getD (ripestTo rs k) 0) (rs.getD k 0) = true) : k = ripestTo rs (k + 1) := by
  rw [ripestTo, if_pos h]
theorem ripestTo_f {rs : List Nat} {k : Nat} (h : flt (rs.getD (ripestTo rs k) 0) (rs.getD k 0) = false) : ripestTo rs k = ripestTo rs (k + 1) := by
  rw [ripestTo, if_neg (by rw [h]; simp)]
theorem ripestTo_one (rs : List Nat) : ripestTo rs 1 = 0 := by
  simp [ripestTo]
theorem ripestTo_lt (rs : List Nat) : ∀ k, ripestTo rs k = 0 ∨ ripestTo rs k < k
  | 0 => .inl rfl
  | k + 1 => by
    have ih := ripestTo_lt rs k
    rw [ripestTo]
    split <;> omega
def warmCode (n : Int) (rs : List Nat) : Int := if vCrate n rs then (if n = 0 then 6 else 0) else 1
def warmDay (n : Int) (rs : List Nat) : Nat := if vCrate n rs then ripestTo rs n.toNat else 0
def warmth (n : Int) (rs : List Nat) : Nat := if vCrate n rs && decide (n ≠ 0) then rs.getD (ripestTo rs n.toNat) 0 else 0
theorem vAt_part {n : Int} {rs : List Nat} (h : vCrate n rs = true) {i : Nat} (hi : (i : Int) < n) : isPart (rs.getD i 0) = true := by
  obtain ⟨_, h1, h2⟩ := vCrate_at h
  have := h2 i (by omega)
  unfold vAt at this
  rw [if_pos hi] at this
  exact this
theorem warmth_nan {n : Int} {rs : List Nat} : nan (warmth n rs) = false := by
  unfold warmth
  split
  · rename_i h
    simp only [Bool.and_eq_true, decide_eq_true_eq] at h
    have h0 := vCrate_in h.1
    have h1 := ripestTo_lt rs n.toNat
    exact nn_nan (part_nn (vAt_part h.1 (by omega)))
  · exact nn_nan nn_zero
end Go.Sl
