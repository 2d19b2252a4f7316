/- Rows of floats copied; which cool is best. -/
import Derived.Test.YtlkpkenbfaiinaaSlN
namespace Go.Sl

theorem zF (es : List Nat) {n : Nat} : (List.replicate n [Value.float .f32 0]).flatten = fl .f32 (cp es 0 n) := by
  have h := fm_rep (f := fun p => [Value.float .f32 p]) 0 n
  rw [fl_fm]
  refine h.trans ?_
  simp [cp]
theorem takeF2 {es : List Nat} {j : List Value} {n : Nat} (h : es.length = n) : takeAt (fl .f32 es ++ j) 0 (n * 1) = some (fl .f32 es) := by
  unfold takeAt
  rw [if_pos (by rw [List.length_append, fl_length]; omega), List.drop_zero, List.take_append_of_le_length (by rw [fl_length]; omega), List.take_of_length_le (by rw [fl_length]; omega)]

/-- the best of some scores, and its place -/
def bestB (sc : Nat → Int) : Nat → Int × Int
  | 0 => (0, -1)
  | k + 1 => if (bestB sc k).2 < sc k then ((k : Int), sc k) else bestB sc k
theorem bestB_t {sc : Nat → Int} {k : Nat} (h : (bestB sc k).2 < sc k) : bestB sc (k + 1) = ((k : Int), sc k) := by rw [bestB, if_pos h]
theorem bestB_f {sc : Nat → Int} {k : Nat} (h : ¬ (bestB sc k).2 < sc k) : bestB sc (k + 1) = bestB sc k := by rw [bestB, if_neg h]
def fineC (n : Nat) (rs : List Nat) (g m : Nat) (fs : List Nat) (lo hi : Nat) (es : List Nat) (i : Nat) : Int :=
  (m : Int) - ((filterI m (isEarly (arrF n rs (es.getD i 0) g) fs hi)).length : Int) - ((filterI m (isLate (arrF n rs (es.getD i 0) g) fs lo)).length : Int)
def bcCode (n : Int) (rs : List Nat) (g : Nat) (m : Int) (fs es : List Nat) (lo hi : Nat) : Int :=
  if crC n rs m fs (g :: lo :: hi :: es) (fle lo hi) = 0 then (if 8 < es.length then 3 else if es.length = 0 then 6 else 0) else crC n rs m fs (g :: lo :: hi :: es) (fle lo hi)
def bcRes (n : Int) (rs : List Nat) (g : Nat) (m : Int) (fs es : List Nat) (lo hi : Nat) : Int × Int :=
  if bcCode n rs g m fs es lo hi = 0 then bestB (fineC n.toNat rs g m.toNat fs lo hi es) es.length else (0, 0)
theorem bc_no {n : Int} {rs : List Nat} {g : Nat} {m : Int} {fs es : List Nat} {lo hi : Nat} (h : bcCode n rs g m fs es lo hi ≠ 0) : bcRes n rs g m fs es lo hi = (0, 0) := by
  unfold bcRes; rw [if_neg h]
theorem bc_ok {n : Int} {rs : List Nat} {g : Nat} {m : Int} {fs es : List Nat} {lo hi : Nat} (h : bcCode n rs g m fs es lo hi = 0) :
    crC n rs m fs (g :: lo :: hi :: es) (fle lo hi) = 0 ∧ 0 < es.length ∧ es.length ≤ 8 := by
  unfold bcCode at h
  split at h
  · rename_i h1
    split at h
    · cases h
    · split at h
      · cases h
      · exact ⟨h1, by omega, by omega⟩
  · contradiction
theorem bc_all {n : Int} {rs : List Nat} {g : Nat} {m : Int} {fs es : List Nat} {lo hi : Nat} (h : crC n rs m fs (g :: lo :: hi :: es) (fle lo hi) = 0) :
    fle lo hi = true ∧ vCrate m fs = true ∧ vCrate n rs = true ∧ isPart g = true ∧ isPart lo = true ∧ isPart hi = true ∧ ∀ i, i < es.length → isPart (es.getD i 0) = true := by
  obtain ⟨h1, h2⟩ := crC_fine.1 h
  unfold okC okV at h1
  simp only [Bool.and_eq_true, List.all_cons] at h1
  refine ⟨h2, h1.1, h1.2.1, h1.2.2.1, h1.2.2.2.1, h1.2.2.2.2.1, fun i hi => ?_⟩
  have := List.all_eq_true.1 h1.2.2.2.2.2 (es[i]) (List.getElem_mem hi)
  simpa [List.getD_eq_getElem?_getD, hi] using this
theorem okC_mk {n : Int} {rs : List Nat} {m : Int} {fs : List Nat} {c g lo hi : Nat} (h1 : vCrate m fs = true) (h2 : vCrate n rs = true) (h3 : isPart c = true) (h4 : isPart g = true) (h5 : isPart lo = true) (h6 : isPart hi = true) : okC n rs m fs [c, g, lo, hi] = true := by
  unfold okC okV
  simp [*]
theorem bcCode_impl {n : Int} {rs : List Nat} {g : Nat} {m : Int} {fs es : List Nat} {lo hi : Nat} : bcCode n rs g m fs es lo hi =
    if crC n rs m fs (g :: lo :: hi :: es) true = 0 then (if flt hi lo then 2 else if 8 < es.length then 3 else if es.length = 0 then 6 else 0) else crC n rs m fs (g :: lo :: hi :: es) true := by
  by_cases h : crC n rs m fs (g :: lo :: hi :: es) true = 0
  · rw [if_pos h]
    have h1 := (crC_fine.1 h).1
    have h2 := crC_ok h1
    have hp : isPart lo = true ∧ isPart hi = true := by
      unfold okC okV at h1
      simp only [Bool.and_eq_true, List.all_cons] at h1
      exact ⟨h1.2.2.2.1, h1.2.2.2.2.1⟩
    rw [part_cmp hp.1 hp.2]
    unfold bcCode
    cases hf : fle lo hi with
    | true => simp [h]
    | false => simp [h2.2]
  · rw [if_neg h]
    have h1 : okC n rs m fs (g :: lo :: hi :: es) = false := by
      cases h2 : okC n rs m fs (g :: lo :: hi :: es) with
      | false => rfl
      | true => exact absurd (crC_ok h2).1 h
    unfold bcCode
    rw [(crC_no (fine := fle lo hi) h1).1, if_neg h]
/-- a slice that is read, its elements in a form of their own -/
theorem SlRd.gen {w : World} {sz : Nat} {ks : List Leaf} {v : Value} {es : List (List Value)} (h : SlRd w sz ks v es) {α : Type} (f : α → List Value) (hf : ∀ e, Leafs ks e → ∃ a, e = f a) :
    ∃ (a : Option Addr) (cap : Nat) (fs : List α), v = .slice a fs.length cap ∧ fs.length ≤ 9223372036854775807 ∧ (∀ x ∈ fs, Leafs ks (f x)) ∧
      (fs = [] ∨ ∃ b off l u fr, a = some ⟨b, off, none⟩ ∧ w.heap[b]? = some (.cells (List.toArray l) u fr) ∧ ∀ i, i < fs.length → ∀ d, takeAt l (off + i * sz) sz = some (f (fs.getD i d))) := by
  obtain ⟨a, cap, rfl, hl, hc, hm, hr⟩ := h
  have key : ∀ es : List (List Value), (∀ e ∈ es, Leafs ks e) → ∃ fs : List α, es = fs.map f := by
    intro es
    induction es with
    | nil => intro _; exact ⟨[], rfl⟩
    | cons e es ih =>
      intro h
      obtain ⟨a, rfl⟩ := hf e (h e (by simp))
      obtain ⟨fs, rfl⟩ := ih (fun e he => h e (by simp [he]))
      exact ⟨a :: fs, rfl⟩
  obtain ⟨fs, rfl⟩ := key es hl
  refine ⟨a, cap, fs, by simp, ?_, fun x hx => hl _ (List.mem_map_of_mem hx), ?_⟩
  · have h1 : maxLen = 9223372036854775807 := rfl
    simp at hc; omega
  · rcases hr with hr | ⟨b, off, l, u, fr, h1, h2, h3⟩
    · left; simpa using hr
    · refine .inr ⟨b, off, l, u, fr, h1, h2, fun i hi d => ?_⟩
      rw [h3 i (by simpa using hi)]
      simp [hi]
theorem take_one {l : List Value} {o : Nat} {v : Value} (h : takeAt l o 1 = some [v]) : l[o]? = some v := by
  unfold takeAt at h
  split at h
  · simp only [Option.some.injEq] at h
    have h2 := congrArg (fun x : List Value => x[0]?) h
    simpa [List.getElem?_take, List.getElem?_drop] using h2
  · cases h
theorem SlRd.floats {w : World} {v : Value} {es : List (List Value)} (h : SlRd w 1 [.float .f32] v es) :
    ∃ (a : Option Addr) (cap : Nat) (fs : List Nat), v = .slice a fs.length cap ∧ fs.length ≤ 9223372036854775807 ∧
      (fs = [] ∨ ∃ b off l u fr, a = some ⟨b, off, none⟩ ∧ w.heap[b]? = some (.cells (List.toArray l) u fr) ∧ ∀ i, i < fs.length → l[off + i * 1]? = some (.float .f32 (fs.getD i 0))) := by
  obtain ⟨a, cap, fs, h1, h2, _, h3⟩ := h.gen (fun p => [Value.float .f32 p]) (fun e he => by
    obtain ⟨b, r, rfl, _, hr⟩ := he
    simp only [Leafs] at hr
    subst hr
    exact ⟨b, rfl⟩)
  refine ⟨a, cap, fs, h1, h2, h3.imp id fun ⟨b, off, l, u, fr, h4, h5, h6⟩ => ⟨b, off, l, u, fr, h4, h5, fun i hi => take_one (h6 i hi 0)⟩⟩
theorem SlRd.ints {w : World} {v : Value} {es : List (List Value)} (h : SlRd w 1 [.int .i64] v es) :
    ∃ (a : Option Addr) (cap : Nat) (fs : List Int), v = .slice a fs.length cap ∧ fs.length ≤ 9223372036854775807 ∧ (∀ x ∈ fs, -9223372036854775808 ≤ x ∧ x ≤ 9223372036854775807) ∧
      (fs = [] ∨ ∃ b off l u fr, a = some ⟨b, off, none⟩ ∧ w.heap[b]? = some (.cells (List.toArray l) u fr) ∧ ∀ i, i < fs.length → l[off + i * 1]? = some (.int .i64 (fs.getD i 0))) := by
  obtain ⟨a, cap, fs, h1, h2, h7, h3⟩ := h.gen (fun p => [Value.int .i64 p]) (fun e he => by
    obtain ⟨b, r, rfl, _, hr⟩ := he
    simp only [Leafs] at hr
    subst hr
    exact ⟨b, rfl⟩)
  refine ⟨a, cap, fs, h1, h2, fun x hx => ?_, h3.imp id fun ⟨b, off, l, u, fr, h4, h5, h6⟩ => ⟨b, off, l, u, fr, h4, h5, fun i hi => take_one (h6 i hi 0)⟩⟩
  obtain ⟨n, r, e, hn, _⟩ := h7 x hx
  simp only [List.cons.injEq, Value.int.injEq] at e
  obtain ⟨⟨_, rfl⟩, _⟩ := e
  exact hn
end Go.Sl
