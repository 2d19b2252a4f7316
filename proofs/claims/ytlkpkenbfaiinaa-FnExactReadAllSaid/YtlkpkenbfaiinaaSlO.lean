/- What the orders' functions compute, in plain Lean. -/
import Derived.Test.YtlkpkenbfaiinaaSlK
namespace Go.Sl

def told (v t : Bool) : Int := if v then (if t then 0 else 2) else 1
/-- the loss of a price for each fruit of the first k that is riper than least -/
def lossTo (rs : List Nat) (least price : Nat) : Nat → Nat
  | 0 => 0
  | k + 1 => if flt least (rs.getD k 0) then fadd (lossTo rs least price k) price else lossTo rs least price k
theorem lossTo_t {rs : List Nat} {least price k : Nat} (h : flt least (rs.getD k 0) = true) : fadd (lossTo rs least price k) price = lossTo rs least price (k + 1) := by
  rw [lossTo, if_pos h]
theorem lossTo_f {rs : List Nat} {least price k : Nat} (h : flt least (rs.getD k 0) = false) : lossTo rs least price k = lossTo rs least price (k + 1) := by
  rw [lossTo, if_neg (by rw [h]; simp)]
theorem lossTo_nn {rs : List Nat} {least price : Nat} (h : isPrice price = true) : ∀ k, nn (lossTo rs least price k) = true
  | 0 => nn_zero
  | k + 1 => by
    rw [lossTo]
    split
    · exact (nn_add (lossTo_nn h k) (price_nn h)).2
    · exact lossTo_nn h k
theorem lossTo_add {rs : List Nat} {least price k : Nat} (h : isPrice price = true) : floatBits .add .f32 (lossTo rs least price k) price = some (fadd (lossTo rs least price k) price) := (nn_add (lossTo_nn h k) (price_nn h)).1
def lossOf (n : Int) (rs : List Nat) (least price : Nat) : Nat := if vCrate n rs && isPart least && isPrice price then lossTo rs least price n.toNat else 0
def lossCode (n : Int) (rs : List Nat) (least price : Nat) : Int := told (vCrate n rs) (isPart least && isPrice price)
theorem lossOf_nan {n : Int} {rs : List Nat} {least price : Nat} : nan (lossOf n rs least price) = false := by
  unfold lossOf
  split
  · rename_i h
    simp only [Bool.and_eq_true] at h
    exact nn_nan (lossTo_nn h.2 _)
  · exact nn_nan nn_zero
end Go.Sl
