/- A list worked on place by place; crates behind a voyage. -/
import Derived.Test.YtlkpkenbfaiinaaSlY
namespace Go.Sl

def mapTo (f : Nat → Nat) (k : Nat) (l : List Nat) : List Nat := (l.take k).map f ++ l.drop k
theorem mapTo_len {f : Nat → Nat} {k : Nat} {l : List Nat} : (mapTo f k l).length = l.length := by
  unfold mapTo; simp; omega
theorem mapTo_get {f : Nat → Nat} {k : Nat} {l : List Nat} (h : k < l.length) : (mapTo f k l).getD k 0 = l.getD k 0 := by
  unfold mapTo
  rw [List.getD_eq_getElem?_getD, List.getElem?_append_right (by simp; omega)]
  have e : k - ((l.take k).map f).length = 0 := by simp; omega
  rw [e, List.getElem?_drop, Nat.add_zero, ← List.getD_eq_getElem?_getD]
theorem mapTo_set {f : Nat → Nat} {k : Nat} {l : List Nat} (h : k < l.length) : (mapTo f k l).set k (f (l.getD k 0)) = mapTo f (k + 1) l := by
  unfold mapTo
  rw [List.set_append_right _ _ (by simp; omega), take_succ_getD (d := 0) h, List.map_append]
  have e : k - ((l.take k).map f).length = 0 := by simp; omega
  rw [e, drop_getD (d := 0) h, List.set_cons_zero]
  simp
theorem gM {f : Nat → Nat} {k : Nat} {v : Value} {l : List Nat} (h : k < l.length) : (v :: fl .f32 (mapTo f k l))[0 + 1 + k * 1]? = some (.float .f32 (l.getD k 0)) := by
  rw [gC (by rw [mapTo_len]; exact h), mapTo_get h]
theorem setM {f : Nat → Nat} {k : Nat} {v : Value} {l : List Nat} (h : k < l.length) : (v :: fl .f32 (mapTo f k l)).set (0 + 1 + k * 1) (.float .f32 (f (l.getD k 0))) = v :: fl .f32 (mapTo f (k + 1) l) := by
  rw [setC, mapTo_set h]
def crC (n : Int) (rs : List Nat) (m : Int) (fs ps : List Nat) (fine : Bool) : Int := if vCrate m fs then told (vCrate n rs) (ps.all isPart && fine) else 1
def okC (n : Int) (rs : List Nat) (m : Int) (fs ps : List Nat) : Bool := vCrate m fs && okV n rs ps
def arrF (n : Nat) (rs : List Nat) (c g : Nat) (p : Nat) : Nat := ripeTo rs c g p 0 n
def arrL (n : Int) (rs : List Nat) (c g : Nat) (m : Int) (fs : List Nat) : List Nat := if okC n rs m fs [c, g] then mapTo (arrF n.toNat rs c g) m.toNat fs else List.replicate 16 0
def arrN (n : Int) (rs : List Nat) (c g : Nat) (m : Int) (fs : List Nat) : Int := if okC n rs m fs [c, g] then m else 0
theorem arrL_len {n : Int} {rs : List Nat} {c g : Nat} {m : Int} {fs : List Nat} (h : fs.length = 16) : (arrL n rs c g m fs).length = 16 := by
  unfold arrL; split
  · rw [mapTo_len, h]
  · simp
theorem same_zero_nan {p : Nat} (h : same p 0 = true) : nan p = false := by
  unfold same at h
  cases hn : nan p with
  | false => rfl
  | true =>
    have h0 : nan 0 = false := nn_nan nn_zero
    rw [hn, h0] at h; simp at h
theorem vAt_nan {n : Int} {rs : List Nat} (h : vCrate n rs = true) {i : Nat} (hi : i < 16) : nan (rs.getD i 0) = false := by
  obtain ⟨_, h1, h2⟩ := vCrate_at h
  have := h2 i hi
  unfold vAt at this
  split at this
  · exact nn_nan (part_nn this)
  · exact same_zero_nan this
theorem mapTo_at {f : Nat → Nat} {k : Nat} {l : List Nat} {i : Nat} (h : i < l.length) (hk : k ≤ l.length) : (mapTo f k l).getD i 0 = if i < k then f (l.getD i 0) else l.getD i 0 := by
  unfold mapTo
  split
  · rename_i hi
    rw [List.getD_eq_getElem?_getD, List.getElem?_append_left (by simp; omega), List.getElem?_map, List.getElem?_take, if_pos hi, List.getElem?_eq_getElem h, List.getD_eq_getElem?_getD, List.getElem?_eq_getElem h]
    rfl
  · rename_i hi
    rw [List.getD_eq_getElem?_getD, List.getElem?_append_right (by simp; omega)]
    have e : k + (i - ((l.take k).map f).length) = i := by simp; omega
    rw [List.getElem?_drop, e, ← List.getD_eq_getElem?_getD]
theorem arrL_nan {n : Int} {rs : List Nat} {c g : Nat} {m : Int} {fs : List Nat} (hl : fs.length = 16) : ∀ i, i < 16 → nan ((arrL n rs c g m fs).getD i 0) = false := fun i hi => by
  unfold arrL
  split
  · rename_i h
    unfold okC okV at h
    simp only [Bool.and_eq_true, List.all_cons, List.all_nil, Bool.and_true] at h
    have h0 := vCrate_in h.1
    have h1 := vCrate_in h.2.1
    rw [mapTo_at (by omega) (by omega)]
    split
    · exact nn_nan (part_nn (ripeTo_part h.2.1 h.2.2.1 h.2.2.2 (vAt_part h.1 (by omega)) _ (by omega)))
    · exact vAt_nan h.1 hi
  · rw [List.getD_eq_getElem?_getD, List.getElem?_replicate]
    split
    · exact nn_nan nn_zero
    · exact nn_nan nn_zero
theorem setArr {n k c g : Nat} {rs fs : List Nat} {v : Value} (h : k < fs.length) : (v :: fl .f32 (mapTo (arrF n rs c g) k fs)).set (0 + 1 + k * 1) (.float .f32 (ripeTo rs c g (fs.getD k 0) 0 (n - 0))) = v :: fl .f32 (mapTo (arrF n rs c g) (k + 1) fs) := setM h
theorem putAllC {l : List Value} {i : IntKind} {n : Int} {k : FloatKind} {rs : List Nat} (h : rs.length + 1 = l.length) : putL l 0 (.int i n :: fl k rs) = .int i n :: fl k rs := putAll (by simp [fl_length]; omega)
end Go.Sl
