/- Rows of indices that meet a test; early and late fruits. -/
import Derived.Test.YtlkpkenbfaiinaaSlQ
namespace Go.Sl

def filterI (n : Nat) (P : Nat → Bool) : List Int := ((List.range n).filter P).map fun i => ((i : Nat) : Int)
theorem filterI_t {P : Nat → Bool} {k : Nat} (h : P k = true) : filterI k P ++ [(k : Int)] = filterI (k + 1) P := by
  unfold filterI
  rw [List.range_succ, List.filter_append, List.map_append]
  simp [h]
theorem filterI_f {P : Nat → Bool} {k : Nat} (h : P k = false) : filterI k P = filterI (k + 1) P := by
  unfold filterI
  rw [List.range_succ, List.filter_append, List.map_append]
  simp [h]
theorem filterI_tl {P : Nat → Bool} {k : Nat} (h : P k = true) : (filterI k P).length + 1 = (filterI (k + 1) P).length := by
  rw [← filterI_t h]; simp
theorem filterI_le (k : Nat) (P : Nat → Bool) : (filterI k P).length ≤ k := by
  unfold filterI
  rw [List.length_map]
  have := List.length_filter_le P (List.range k)
  simpa using this
theorem filterI_congr {n : Nat} {P Q : Nat → Bool} (h : ∀ i, i < n → P i = Q i) : filterI n P = filterI n Q := by
  unfold filterI
  rw [List.filter_congr fun i hi => h i (List.mem_range.1 hi)]
/-- two fresh rows of whole numbers -/
def RowII (r1 r2 : List Int) (v : Value) (H : Hp) : Prop := ∃ p q : RowP, v = packV [.slice (some ⟨p.b, 0, none⟩) r1.length p.cap, .slice (some ⟨q.b, 0, none⟩) r2.length q.cap] ∧ r1.length + p.junk.length = p.cap ∧ r2.length + q.junk.length = q.cap ∧
  H = [(p.b, .cells (il r1 ++ p.junk).toArray p.u (0, 0)), (q.b, .cells (il r2 ++ q.junk).toArray q.u (0, 0))]
def RowIIC (r1 r2 : List Int) (code : Int) (v : Value) (H : Hp) : Prop := ∃ p q : RowP, v = packV [.slice (some ⟨p.b, 0, none⟩) r1.length p.cap, .slice (some ⟨q.b, 0, none⟩) r2.length q.cap, .int .i64 code] ∧ r1.length + p.junk.length = p.cap ∧ r2.length + q.junk.length = q.cap ∧
  H = [(p.b, .cells (il r1 ++ p.junk).toArray p.u (0, 0)), (q.b, .cells (il r2 ++ q.junk).toArray q.u (0, 0))]
theorem flt_not_both {a lo hi : Nat} (ha : isPart a = true) (hl : isPart lo = true) (hh : isPart hi = true) (hlh : fle lo hi = true) (h : flt hi a = true) : flt a lo = false := by
  obtain ⟨A, a1, _⟩ := part_HV ha
  obtain ⟨L, l1, _⟩ := part_HV hl
  obtain ⟨U, u1, _⟩ := part_HV hh
  rw [HV_fle l1 u1] at hlh
  rw [HV_flt u1 a1] at h
  rw [HV_flt a1 l1]
  simp only [decide_eq_true_eq, decide_eq_false_iff_not] at *
  omega
/-- the early and the late ones of the first k of a crate behind a voyage -/
abbrev isEarly (f : Nat → Nat) (fs : List Nat) (hi : Nat) (i : Nat) : Bool := flt hi (f (fs.getD i 0))
abbrev isLate (f : Nat → Nat) (fs : List Nat) (lo : Nat) (i : Nat) : Bool := flt (f (fs.getD i 0)) lo
theorem crC_no {n : Int} {rs : List Nat} {m : Int} {fs ps : List Nat} {fine : Bool} (h : okC n rs m fs ps = false) : crC n rs m fs ps fine = crC n rs m fs ps true ∧ crC n rs m fs ps true ≠ 0 := by
  unfold okC okV at h
  unfold crC told
  cases h1 : vCrate m fs with
  | false => simp
  | true =>
    cases h2 : vCrate n rs with
    | false => simp
    | true => rw [h1, h2] at h; simp only [Bool.true_and] at h; simp [h]
theorem crC_ok {n : Int} {rs : List Nat} {m : Int} {fs ps : List Nat} (h : okC n rs m fs ps = true) : crC n rs m fs ps true = 0 ∧ crC n rs m fs ps false = 2 := by
  unfold okC okV at h
  simp only [Bool.and_eq_true] at h
  unfold crC told
  rw [h.1, h.2.1, h.2.2]
  exact ⟨rfl, rfl⟩
theorem crC_fine {n : Int} {rs : List Nat} {m : Int} {fs ps : List Nat} {fine : Bool} : crC n rs m fs ps fine = 0 ↔ okC n rs m fs ps = true ∧ fine = true := by
  unfold crC okC okV told
  cases vCrate m fs <;> cases vCrate n rs <;> cases ps.all isPart <;> cases fine <;> simp
theorem okC_4 {n : Int} {rs : List Nat} {m : Int} {fs : List Nat} {c g lo hi : Nat} (h : okC n rs m fs [c, g, lo, hi] = true) : vCrate m fs = true ∧ vCrate n rs = true ∧ isPart c = true ∧ isPart g = true ∧ isPart lo = true ∧ isPart hi = true := by
  unfold okC okV at h
  simp only [Bool.and_eq_true, List.all_cons, List.all_nil, Bool.and_true] at h
  exact ⟨h.1, h.2.1, h.2.2.1, h.2.2.2.1, h.2.2.2.2.1, h.2.2.2.2.2⟩
theorem mapTo_early {f : Nat → Nat} {m : Nat} {fs : List Nat} {hi : Nat} (h : m ≤ fs.length) : filterI m (fun i => flt hi ((mapTo f m fs).getD i 0)) = filterI m (isEarly f fs hi) :=
  filterI_congr fun i hi2 => by rw [mapTo_at (by omega) h, if_pos hi2]
theorem mapTo_late {f : Nat → Nat} {m : Nat} {fs : List Nat} {lo : Nat} (h : m ≤ fs.length) : filterI m (fun i => flt ((mapTo f m fs).getD i 0) lo) = filterI m (isLate f fs lo) :=
  filterI_congr fun i hi2 => by rw [mapTo_at (by omega) h, if_pos hi2]
end Go.Sl
