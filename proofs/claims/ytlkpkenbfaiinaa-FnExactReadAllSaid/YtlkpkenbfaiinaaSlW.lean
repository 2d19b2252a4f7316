/- Voyages: how ripe a fruit is behind some days. -/
import Derived.Test.YtlkpkenbfaiinaaSlV
import Derived.Test.YtlkpkenbfaiinaaSlM
namespace Go.Sl

theorem told_zero {v t : Bool} : told v t = 0 ↔ v = true ∧ t = true := by cases v <;> cases t <;> simp [told]
theorem allN_succ {k : Nat} {p : Nat → Bool} : allN (k + 1) p = (allN k p && p k) := by
  unfold allN
  rw [List.range_succ, List.all_append]
  simp
def stepR (rs : List Nat) (c g p k : Nat) : Nat := grownF p (rateF (insideF (rs.getD k 0) c) g)
/-- the ripeness behind j days from day s on -/
def ripeTo (rs : List Nat) (c g p s : Nat) : Nat → Nat
  | 0 => p
  | j + 1 => stepR rs c g (ripeTo rs c g p s j) (s + j)
theorem ripeTo_succ {rs : List Nat} {c g p s j : Nat} : grownF (ripeTo rs c g p s j) (rateF (insideF (rs.getD (s + j) 0) c) g) = ripeTo rs c g p s (j + 1) := rfl
theorem step_part {n : Int} {rs : List Nat} {c g p k : Nat} (hv : vCrate n rs = true) (hc : isPart c = true) (hg : isPart g = true) (hp : isPart p = true) (hk : (k : Int) < n) :
    isPart (rs.getD k 0) = true ∧ isPart (insideF (rs.getD k 0) c) = true ∧ isRate (rateF (insideF (rs.getD k 0) c) g) ∧ isPart (stepR rs c g p k) = true := by
  have h1 := vAt_part hv hk
  have h2 := (inside_ok h1 hc).2
  have h3 := (rate_ok h2 hg).2
  exact ⟨h1, h2, h3, (grown_ok hp h3).2⟩
theorem ripeTo_part {n : Int} {rs : List Nat} {c g p s : Nat} (hv : vCrate n rs = true) (hc : isPart c = true) (hg : isPart g = true) (hp : isPart p = true) : ∀ (j : Nat), (s + j : Int) ≤ n → isPart (ripeTo rs c g p s j) = true
  | 0, _ => hp
  | j + 1, h => (step_part hv hc hg (ripeTo_part hv hc hg hp j (by omega)) (by omega)).2.2.2
def courseL (rs : List Nat) (c g p s j : Nat) : List Nat := (List.range j).map fun i => ripeTo rs c g p s (i + 1)
theorem courseL_len {rs : List Nat} {c g p s j : Nat} : (courseL rs c g p s j).length = j := by simp [courseL]
theorem courseL_succ {rs : List Nat} {c g p s j : Nat} : courseL rs c g p s j ++ [ripeTo rs c g p s (j + 1)] = courseL rs c g p s (j + 1) := by
  unfold courseL
  rw [List.range_succ, List.map_append]; rfl
theorem courseL_get {rs : List Nat} {c g p s j i : Nat} (h : i < j) : (courseL rs c g p s j).getD i 0 = ripeTo rs c g p s (i + 1) := by
  unfold courseL
  simp [h]
theorem gC2 {k : FloatKind} {v : Value} {l : List Nat} {s i m : Nat} (h : s + i < l.length) (hm : s < m) : (v :: fl k l)[(if m = s then 0 + 1 else 0 + 1 + s * 1) + i * 1]? = some (.float k (l.getD (s + i) 0)) := by
  rw [if_neg (by omega), show 0 + 1 + s * 1 + i * 1 = 0 + 1 + (s + i) * 1 by omega]
  exact gC h

/-- a fresh row of floats -/
def RowF (rs : List Nat) (len : Nat) (v : Value) (H : Hp) : Prop := ∃ b cap junk u, v = .slice (some ⟨b, 0, none⟩) len cap ∧ len + junk.length = cap ∧ rs.length = len ∧ H = [(b, .cells (fl .f32 rs ++ junk).toArray u (0, 0))]
structure RowP where
  b : Nat
  cap : Nat
  junk : List Value
  u : TypeId

/-- the first of n places at which a test is met -/
def firstN (n : Nat) (P : Nat → Bool) : Option Nat := (List.range n).find? P
theorem firstN_some {n k : Nat} {P : Nat → Bool} (hk : k < n) (h : P k = true) (h2 : ∀ j, j < k → P j = false) : firstN n P = some k := by
  unfold firstN
  rw [List.find?_range_eq_some]
  exact ⟨h, List.mem_range.2 hk, fun j hj => by simp [h2 j hj]⟩
theorem firstN_none {n : Nat} {P : Nat → Bool} (h : ∀ j, j < n → P j = false) : firstN n P = none := by
  unfold firstN
  rw [List.find?_eq_none]
  intro x hx
  simp [h x (List.mem_range.1 hx)]
theorem idxOf_first {α : Type} (d : α) (p : α → Bool) (es : List α) : idxOf p es = (match firstN es.length (fun i => p (es.getD i d)) with | some k => (k : Int) | none => -1) := by
  cases h : firstN es.length (fun i => p (es.getD i d)) with
  | some k =>
    unfold firstN at h
    rw [List.find?_range_eq_some] at h
    exact idxOf_some (d := d) (List.mem_range.1 h.2.1) h.1 (fun j hj => by simpa using h.2.2 j hj)
  | none =>
    unfold firstN at h
    rw [List.find?_eq_none] at h
    exact idxOf_none (d := d) (fun j hj => by simpa using h j (List.mem_range.2 hj))

def okV (n : Int) (rs ps : List Nat) : Bool := vCrate n rs && ps.all isPart
def askC (n : Int) (rs ps : List Nat) : Int := told (vCrate n rs) (ps.all isPart)
def ripeEnd (n : Int) (rs : List Nat) (c g p : Nat) : Nat := if okV n rs [c, g, p] then ripeTo rs c g p 0 n.toNat else 0
theorem ripeEnd_nan {n : Int} {rs : List Nat} {c g p : Nat} : nan (ripeEnd n rs c g p) = false := by
  unfold ripeEnd
  split
  · rename_i h
    unfold okV at h
    simp only [Bool.and_eq_true, List.all_cons, List.all_nil, Bool.and_true] at h
    have h0 := vCrate_in h.1
    exact nn_nan (part_nn (ripeTo_part h.1 h.2.1 h.2.2.1 h.2.2.2 _ (by omega)))
  · exact nn_nan nn_zero
def loadO (n : Int) (rs : List Nat) (c g p m : Nat) : Option Nat := if okV n rs [c, g, p, m] then firstN (n.toNat + 1) (fun k => fle (ripeTo rs c g p k (n.toNat - k)) m) else none
def loadCode (n : Int) (rs : List Nat) (c g p m : Nat) : Int := if okV n rs [c, g, p, m] then (if (loadO n rs c g p m).isSome then 0 else 6) else askC n rs [c, g, p, m]
def readyO (n : Int) (rs : List Nat) (c g p m : Nat) : Option Nat := if okV n rs [c, g, p, m] then firstN n.toNat (fun k => fle m (ripeTo rs c g p 0 (k + 1))) else none
def readyCode (n : Int) (rs : List Nat) (c g p m : Nat) : Int := if okV n rs [c, g, p, m] then (if (readyO n rs c g p m).isSome then 0 else 6) else askC n rs [c, g, p, m]
theorem firstN_congr {n : Nat} {P Q : Nat → Bool} (h : ∀ i, i < n → P i = Q i) : firstN n P = firstN n Q := by
  cases hp : firstN n P with
  | none =>
    refine (firstN_none fun j hj => ?_).symm
    unfold firstN at hp
    rw [List.find?_eq_none] at hp
    rw [← h j hj]
    simpa using hp j (List.mem_range.2 hj)
  | some k =>
    unfold firstN at hp
    rw [List.find?_range_eq_some] at hp
    have hk := List.mem_range.1 hp.2.1
    refine (firstN_some hk (by rw [← h k hk]; exact hp.1) fun j hj => ?_).symm
    rw [← h j (by omega)]
    simpa using hp.2.2 j hj
theorem ready_idx {n : Nat} {rs : List Nat} {c g p m : Nat} (hok : okV (n : Int) rs [c, g, p, m] = true) :
    idxOf (fun a => fle m a) (courseL rs c g p 0 n) = (match readyO (n : Int) rs c g p m with | some k => (k : Int) | none => -1) := by
  rw [idxOf_first (0 : Nat), courseL_len, firstN_congr (Q := fun k => fle m (ripeTo rs c g p 0 (k + 1))) (fun i hi => by rw [courseL_get hi])]
  unfold readyO
  rw [if_pos hok]
  rfl
theorem ready_lt {n : Nat} {rs : List Nat} {c g p m : Nat} (hok : okV (n : Int) rs [c, g, p, m] = true) (h : idxOf (fun a => fle m a) (courseL rs c g p 0 n) < 0) : readyO (n : Int) rs c g p m = none := by
  rw [ready_idx hok] at h
  cases hr : readyO (n : Int) rs c g p m with
  | none => rfl
  | some k => rw [hr] at h; simp only [] at h; omega
theorem ready_ge {n : Nat} {rs : List Nat} {c g p m : Nat} (hok : okV (n : Int) rs [c, g, p, m] = true) (h : ¬ idxOf (fun a => fle m a) (courseL rs c g p 0 n) < 0) : ∃ k, readyO (n : Int) rs c g p m = some k ∧ idxOf (fun a => fle m a) (courseL rs c g p 0 n) = k := by
  rw [ready_idx hok] at h ⊢
  cases hr : readyO (n : Int) rs c g p m with
  | none => rw [hr] at h; simp only [] at h; omega
  | some k => exact ⟨k, rfl, rfl⟩
/-- a fresh row of floats and a code -/
def RowT (rs : List Nat) (len : Nat) (code : Int) (v : Value) (H : Hp) : Prop := ∃ b cap junk u, v = packV [.slice (some ⟨b, 0, none⟩) len cap, .int .i64 code] ∧ len + junk.length = cap ∧ rs.length = len ∧ H = [(b, .cells (fl .f32 rs ++ junk).toArray u (0, 0))]
theorem course_at {rs : List Nat} {c g p n k : Nat} {j : List Value} (h : k < n) : (fl .f32 (courseL rs c g p 0 n) ++ j)[0 + k * 1]? = some (.float .f32 (ripeTo rs c g p 0 (k + 1))) := by
  rw [← courseL_get h]
  exact gF (by rw [courseL_len]; exact h)
end Go.Sl
