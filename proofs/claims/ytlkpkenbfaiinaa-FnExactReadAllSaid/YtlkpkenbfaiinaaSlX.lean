/- Rows of floats and of whole numbers: marks written into them, rows compared. -/
import Derived.Test.YtlkpkenbfaiinaaSlW
namespace Go.Sl

def i2f (v : Nat) : Nat := FloatKind.f32.nearest (v : Int)
theorem i2f_nan (v : Nat) : nan (i2f v) = false := by
  refine nn_nan ?_
  show nn (Ieee.single.nearest _ _ _) = true
  refine nn_nearest fun h => ?_
  simp at h
  omega
def marksF (v n : Nat) : List Nat := (List.range n).map fun i => i2f (v + i)
theorem marksF_len {v n : Nat} : (marksF v n).length = n := by simp [marksF]
def mkF (es : List Nat) (v k : Nat) : List Nat := marksF v k ++ es.drop k
theorem mkF_zero {es : List Nat} {v : Nat} : mkF es v 0 = es := rfl
theorem mkF_full {es : List Nat} {v n : Nat} (h : es.length = n) : mkF es v n = marksF v n := by
  unfold mkF
  rw [List.drop_eq_nil_of_le (by omega)]; simp
theorem mkF_len {es : List Nat} {v k : Nat} (h : k ≤ es.length) : (mkF es v k).length = es.length := by
  unfold mkF
  simp [marksF_len]; omega
theorem mkF_step {es : List Nat} {v k : Nat} {junk : List Value} (h : k < es.length) : (fl .f32 (mkF es v k) ++ junk).set (0 + k * 1) (.float .f32 (FloatKind.f32.nearest ((v + k : Nat) : Int))) = fl .f32 (mkF es v (k + 1)) ++ junk := by
  rw [setF (by rw [mkF_len (by omega)]; exact h)]
  congr 2
  unfold mkF
  rw [List.set_append_right _ _ (by rw [marksF_len]; omega), marksF_len, Nat.sub_self, drop_getD (d := 0) h, List.set_cons_zero]
  unfold marksF
  rw [List.range_succ, List.map_append]
  simp [i2f]
theorem marksF_at {v n k : Nat} {junk : List Value} (h : k < n) : (fl .f32 (marksF v n) ++ junk)[0 + k * 1]? = some (.float .f32 (i2f (v + k))) := by
  rw [gF (by rw [marksF_len]; exact h)]
  unfold marksF
  simp [h]
theorem i2f_ne (v : Nat) : (!feq (i2f v) (FloatKind.f32.nearest (v : Int))) = false := by
  show (!feq (i2f v) (i2f v)) = false
  rw [feq_self, i2f_nan]; rfl

def marksI (v n : Nat) : List Int := (List.range n).map fun i => ((v + i : Nat) : Int)
theorem marksI_len {v n : Nat} : (marksI v n).length = n := by simp [marksI]
def mkI (es : List Int) (v k : Nat) : List Int := marksI v k ++ es.drop k
theorem mkI_full {es : List Int} {v n : Nat} (h : es.length = n) : mkI es v n = marksI v n := by
  unfold mkI
  rw [List.drop_eq_nil_of_le (by omega)]; simp
theorem mkI_len {es : List Int} {v k : Nat} (h : k ≤ es.length) : (mkI es v k).length = es.length := by
  unfold mkI
  simp [marksI_len]; omega
theorem mkI_step {es : List Int} {v k : Nat} {junk : List Value} (h : k < es.length) : (il (mkI es v k) ++ junk).set (0 + k * 1) (.int .i64 ((v + k : Nat) : Int)) = il (mkI es v (k + 1)) ++ junk := by
  rw [setI (by rw [mkI_len (by omega)]; exact h)]
  congr 2
  unfold mkI
  rw [List.set_append_right _ _ (by rw [marksI_len]; omega), marksI_len, Nat.sub_self, drop_getD (d := 0) h, List.set_cons_zero]
  unfold marksI
  rw [List.range_succ, List.map_append]
  simp
theorem marksI_at {v n k : Nat} {junk : List Value} (h : k < n) : (il (marksI v n) ++ junk)[0 + k * 1]? = some (.int .i64 ((v + k : Nat) : Int)) := by
  rw [gI (by rw [marksI_len]; exact h)]
  unfold marksI
  simp [h]
theorem bltI2 {l : List Int} {j : List Value} {i : Nat} (h : i < l.length) : Nat.blt (0 + i * 1) (il l ++ j).length = true := by
  simp [Nat.blt_eq, il_length]; omega
def RowI (rs : List Int) (len : Nat) (v : Value) (H : Hp) : Prop := ∃ b cap junk u, v = .slice (some ⟨b, 0, none⟩) len cap ∧ len + junk.length = cap ∧ rs.length = len ∧ H = [(b, .cells (il rs ++ junk).toArray u (0, 0))]
theorem course_nan {n : Nat} {rs : List Nat} {c g p : Nat} (hv : vCrate (n : Int) rs = true) (hc : isPart c = true) (hg : isPart g = true) (hp : isPart p = true) : ∀ i, i < n → nan ((courseL rs c g p 0 n).getD i 0) = false := fun i hi => by
  rw [courseL_get hi]
  exact nn_nan (part_nn (ripeTo_part hv hc hg hp _ (by omega)))
end Go.Sl
