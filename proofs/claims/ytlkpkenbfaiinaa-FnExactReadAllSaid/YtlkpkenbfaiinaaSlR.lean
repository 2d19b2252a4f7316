/- How the arguments of a row read: what a value is made of whose type holds numbers alone; slices of such. -/
import Derived.Test.YtlkpkenbfaiinaaSlE
import Derived.ProofKit
import Derived.Laws.Cover2
namespace Go.Sl
open Go.ChangeShapes Go.WideShapes Go.ChangeAt Go.RowKit

inductive Leaf where
  | int (k : IntKind)
  | float (k : FloatKind)
  deriving DecidableEq, Repr

def flim : FloatKind → Nat
  | .f32 => 4294967296
  | .f64 => 18446744073709551616

def Leafs : List Leaf → List Value → Prop
  | [], l => l = []
  | .int k :: ks, l => ∃ n r, l = .int k n :: r ∧ (k.min ≤ n ∧ n ≤ k.max) ∧ Leafs ks r
  | .float k :: ks, l => ∃ b r, l = .float k b :: r ∧ b < flim k ∧ Leafs ks r

theorem Leafs.length : ∀ {ks : List Leaf} {l : List Value}, Leafs ks l → l.length = ks.length
  | [], l, h => by simp only [Leafs] at h; rw [h]; rfl
  | .int k :: ks, l, h => by
    simp only [Leafs] at h
    obtain ⟨n, r, rfl, _, h⟩ := h
    simp [Leafs.length h]
  | .float k :: ks, l, h => by
    simp only [Leafs] at h
    obtain ⟨n, r, rfl, _, h⟩ := h
    simp [Leafs.length h]

theorem Leafs.append : ∀ {ks ks' : List Leaf} {l : List Value}, Leafs ks (l.take ks.length) → Leafs ks' (l.drop ks.length) → Leafs (ks ++ ks') l
  | [], ks', l, _, h => by simpa using h
  | .int k :: ks, ks', l, h, h' => by
    simp only [Leafs] at h
    obtain ⟨n, r, e, hn, h⟩ := h
    cases l with
    | nil => simp at e
    | cons x l =>
      simp at e
      obtain ⟨rfl, rfl⟩ := e
      simp only [List.cons_append, Leafs]
      exact ⟨n, l, rfl, hn, Leafs.append h (by simpa using h')⟩
  | .float k :: ks, ks', l, h, h' => by
    simp only [Leafs] at h
    obtain ⟨n, r, e, hn, h⟩ := h
    cases l with
    | nil => simp at e
    | cons x l =>
      simp at e
      obtain ⟨rfl, rfl⟩ := e
      simp only [List.cons_append, Leafs]
      exact ⟨n, l, rfl, hn, Leafs.append h (by simpa using h')⟩

/-- floats in a row, as a list of their bits -/
def fl (k : FloatKind) (l : List Nat) : List Value := l.map (Value.float k)

theorem Leafs.floats {k : FloatKind} : ∀ {m : Nat} {l : List Value}, Leafs (List.replicate m (.float k)) l → ∃ rs : List Nat, l = fl k rs ∧ rs.length = m ∧ ∀ x ∈ rs, x < flim k
  | 0, l, h => by simp only [List.replicate, Leafs] at h; exact ⟨[], by simp [h, fl], rfl, by simp⟩
  | m + 1, l, h => by
    simp only [List.replicate_succ, Leafs] at h
    obtain ⟨b, r, rfl, hb, h⟩ := h
    obtain ⟨rs, rfl, h2, h3⟩ := Leafs.floats h
    exact ⟨b :: rs, by simp [fl], by simp [h2], by simp; exact ⟨hb, h3⟩⟩

mutual
/-- the leaves of a type that holds numbers alone -/
def leafs (P : Program) : Nat → TypeId → Option (List Leaf)
  | 0, _ => none
  | n + 1, t =>
    match P.underlying t with
    | some (.int k) => some [.int k]
    | some (.float k) => some [.float k]
    | some (.struct fs) =>
      match leafsF P n 0 fs.toList with
      | some ks => if ks.length = P.cellsOf t then some ks else none
      | none => none
    | some (.array m e) =>
      match leafs P n e with
      | some ks => if ks.length = P.cellsOf e ∧ m * ks.length = P.cellsOf t then some (List.replicate m ks).flatten else none
      | none => none
    | _ => none
def leafsF (P : Program) : Nat → Nat → List Field → Option (List Leaf)
  | _, _, [] => some []
  | 0, _, _ :: _ => none
  | n + 1, off, f :: fs =>
    match leafs P n f.type with
    | some ks => if f.offset = off ∧ ks.length = P.cellsOf f.type then
        match leafsF P n (off + ks.length) fs with
        | some r => some (ks ++ r)
        | none => none
      else none
    | none => none
end

section
variable {H : Type} {enc : TypeId × Value → H} {P : Program} {w : World} {base : Nat} {sp : Nat → Bool} {held : Bool}

theorem leafs_fields (fuel : Nat) (ih : ∀ n t ks cs (d : DataW H) ps, leafs P n t = some ks → DataW.trod enc P w base sp held fuel t cs = some (d, ps) → Leafs ks cs) :
    ∀ (fs : List Field) (n off : Nat) (ks : List Leaf) (cs : List Value) (xs : List (DataW H × List MemPlace)), leafsF P n off fs = some ks → cs.length = off + ks.length →
      fs.mapM (fun f => DataW.trod enc P w base sp held fuel f.type ((cs.drop f.offset).take (P.cellsOf f.type))) = some xs → Leafs ks (cs.drop off)
  | [], n, off, ks, cs, xs, hk, hl, _ => by
    unfold leafsF at hk
    simp at hk
    subst hk
    simp only [Leafs]
    exact List.drop_eq_nil_of_le (by simp at hl; omega)
  | f :: fs, 0, off, ks, cs, xs, hk, hl, h => by simp [leafsF] at hk
  | f :: fs, n + 1, off, ks, cs, xs, hk, hl, h => by
    unfold leafsF at hk
    split at hk
    · rename_i k1 h1
      split at hk
      · rename_i hc
        obtain ⟨ho, hz⟩ := hc
        split at hk
        · rename_i r hr
          simp at hk; subst hk
          simp only [List.mapM_cons] at h
          cases h2 : DataW.trod enc P w base sp held fuel f.type ((cs.drop f.offset).take (P.cellsOf f.type)) with
          | none => rw [h2] at h; simp at h
          | some x =>
            rw [h2] at h
            cases h3 : fs.mapM (fun f => DataW.trod enc P w base sp held fuel f.type ((cs.drop f.offset).take (P.cellsOf f.type))) with
            | none => rw [h3] at h; simp at h
            | some ys =>
              have i1 := ih _ _ _ _ _ _ h1 h2
              have i2 := leafs_fields fuel ih fs n (off + k1.length) r cs ys hr (by simp at hl; omega) h3
              refine Leafs.append ?_ ?_
              · rw [hz, ← ho]; exact i1
              · rw [List.drop_drop]; exact i2
        · cases hk
      · cases hk
    · cases hk

theorem leafs_array (fuel : Nat) {e : TypeId} {ks : List Leaf} (hz : ks.length = P.cellsOf e) (ih : ∀ cs (d : DataW H) ps, DataW.trod enc P w base sp held fuel e cs = some (d, ps) → Leafs ks cs) :
    ∀ (m i : Nat) (cs : List Value), cs.length = (i + m) * ks.length → (∀ j, j < i + m → ∃ x, DataW.trod enc P w base sp held fuel e ((cs.drop (j * P.cellsOf e)).take (P.cellsOf e)) = some x) →
      Leafs (List.replicate m ks).flatten (cs.drop (i * ks.length))
  | 0, i, cs, hl, _ => by
    simp only [List.replicate, List.flatten_nil, Leafs]
    exact List.drop_eq_nil_of_le (by simp at hl; omega)
  | m + 1, i, cs, hl, h => by
    obtain ⟨⟨d, ps⟩, hx⟩ := h i (by omega)
    rw [List.replicate_succ, List.flatten_cons]
    refine Leafs.append ?_ ?_
    · have := ih _ _ _ hx
      rw [← hz] at this; exact this
    · have := leafs_array fuel hz ih m (i + 1) cs (by rw [hl]; congr 1; omega) (fun j hj => h j (by omega))
      rw [List.drop_drop, show i * ks.length + ks.length = (i + 1) * ks.length by rw [Nat.add_mul]; omega]
      exact this

theorem mapM_range {α : Type} {f : Nat → Option α} {n : Nat} {xs : List α} (h : (List.range n).mapM f = some xs) : ∀ j, j < n → ∃ x, f j = some x := by
  have : ∀ (l : List Nat) (xs : List α), l.mapM f = some xs → ∀ j ∈ l, ∃ x, f j = some x := by
    intro l
    induction l with
    | nil => intro xs _ j hj; cases hj
    | cons a l ih =>
      intro xs h j hj
      simp only [List.mapM_cons] at h
      cases h2 : f a with
      | none => rw [h2] at h; simp at h
      | some y =>
        rw [h2] at h
        cases h3 : l.mapM f with
        | none => rw [h3] at h; simp at h
        | some ys =>
          rcases List.mem_cons.1 hj with rfl | hj
          · exact ⟨y, h2⟩
          · exact ih _ h3 j hj
  intro j hj
  exact this _ _ h j (List.mem_range.2 hj)

theorem leafs_open : ∀ (fuel n : Nat) (t : TypeId) (ks : List Leaf) (cs : List Value) (d : DataW H) (ps : List MemPlace), leafs P n t = some ks → DataW.trod enc P w base sp held fuel t cs = some (d, ps) → Leafs ks cs
  | 0, _, _, _, _, _, _, _, h => by simp [DataW.trod] at h
  | fuel + 1, 0, _, _, _, _, _, hk, _ => by simp [leafs] at hk
  | fuel + 1, n + 1, t, ks, cs, d, ps, hk, h => by
    unfold leafs at hk
    unfold DataW.trod at h
    split at hk
    · rename_i k hu
      simp at hk; subst hk
      rw [hu] at h
      split at h <;> first | (simp at *; done) | skip
      all_goals (rename_i e; cases e)
      rename_i k' n' 
      split at h
      · rename_i hc
        obtain ⟨rfl, hw⟩ := hc
        simp [Lit.wf] at hw
        exact ⟨n', [], rfl, hw, rfl⟩
      · cases h
    · rename_i k hu
      simp at hk; subst hk
      rw [hu] at h
      split at h <;> first | (simp at *; done) | skip
      all_goals (rename_i e; cases e)
      rename_i k' b'
      split at h
      · rename_i hc
        obtain ⟨rfl, hw⟩ := hc
        refine ⟨b', [], rfl, ?_, rfl⟩
        cases k' <;> simpa [Lit.wf, flim] using hw
      · cases h
    · rename_i fs hu
      rw [hu] at h
      split at hk
      · rename_i ks' hk'
        split at hk
        · rename_i hlen
          simp at hk; subst hk
          split at h <;> first | (simp at *; done) | skip
          all_goals (rename_i e; cases e)
          rename_i cs' _ _
          split at h
          · rename_i hl
            cases hm : fs.toList.mapM (fun f => DataW.trod enc P w base sp held fuel f.type ((cs'.drop f.offset).take (P.cellsOf f.type))) with
            | none => rw [hm] at h; simp at h
            | some xs =>
              have := leafs_fields fuel (leafs_open fuel) fs.toList n 0 ks' cs' xs hk' (by omega) hm
              simpa using this
          · cases h
        · cases hk
      · cases hk
    · rename_i m e hu
      rw [hu] at h
      split at hk
      · rename_i k1 h1
        split at hk
        · rename_i hz
          simp at hk; subst hk
          split at h <;> first | (simp at *; done) | skip
          all_goals (rename_i ee; cases ee)
          rename_i cs' _ _
          split at h
          · rename_i hl
            cases hm : (List.range m).mapM (fun i => DataW.trod enc P w base sp held fuel e ((cs'.drop (i * P.cellsOf e)).take (P.cellsOf e))) with
            | none => rw [hm] at h; simp at h
            | some xs =>
              have := leafs_array (m := m) (i := 0) fuel hz.1 (fun cs d ps hx => leafs_open fuel n e k1 cs d ps h1 hx) cs' (by rw [hl, ← hz.2]; simp) (fun j hj => mapM_range hm j (by omega))
              simpa using this
          · cases h
        · cases hk
      · cases hk
    · cases hk

/-- an argument whose type holds numbers alone, several cells -/
theorem open_flatA {t : TypeId} {v : Value} {d : DataW H} {ps : List MemPlace} {ks : List Leaf} {n : Nat} (ha : aggB P t = some true) (hk : leafs P n t = some ks) {r : Reach} {b0 : Nat} (hv : Value.okWide P w r b0 t v) (h : DataW.Trod enc P w base sp held t v d ps) :
    ∃ l : List Value, v = .agg l.toArray ∧ Leafs ks l := by
  have hex : ∃ cs, v = .agg cs := by
    unfold aggB at ha
    unfold Value.okWide at hv
    split at ha
    · rename_i fs hu; rw [hu] at hv; obtain ⟨cs, e, _⟩ := hv; exact ⟨cs, e⟩
    · rename_i m e hu; rw [hu] at hv; obtain ⟨cs, e, _⟩ := hv; exact ⟨cs, e⟩
    · simp at ha
    · cases ha
  obtain ⟨cs, rfl⟩ := hex
  obtain ⟨fuel, hf⟩ := h
  exact ⟨cs.toList, by simp, leafs_open fuel n t ks _ d ps hk hf⟩

theorem open_int1 {t : TypeId} {k : IntKind} {v : Value} {d : DataW H} {ps : List MemPlace} (hu : P.underlying t = some (.int k)) {r : Reach} {b0 : Nat} (hv : Value.okWide P w r b0 t v) (h : DataW.Trod enc P w base sp held t v d ps) :
    ∃ n : Int, v = .int k n ∧ k.min ≤ n ∧ n ≤ k.max := by
  obtain ⟨n, rfl⟩ := okWide_int hu hv
  obtain ⟨fuel, hf⟩ := h
  have := leafs_open fuel 1 t [.int k] _ d ps (by unfold leafs; rw [hu]) hf
  obtain ⟨n', r, e, hn, _⟩ := this
  simp [Value.cells] at e
  obtain ⟨rfl, _⟩ := e
  exact ⟨n, rfl, hn.1, hn.2⟩

theorem open_float1 {t : TypeId} {k : FloatKind} {v : Value} {d : DataW H} {ps : List MemPlace} (hu : P.underlying t = some (.float k)) {r : Reach} {b0 : Nat} (hv : Value.okWide P w r b0 t v) (h : DataW.Trod enc P w base sp held t v d ps) :
    ∃ n : Nat, v = .float k n ∧ n < flim k := by
  obtain ⟨n, rfl⟩ := okWide_float hu hv
  obtain ⟨fuel, hf⟩ := h
  have := leafs_open fuel 1 t [.float k] _ d ps (by unfold leafs; rw [hu]) hf
  obtain ⟨n', r, e, hn, _⟩ := this
  simp [Value.cells] at e
  obtain ⟨rfl, _⟩ := e
  exact ⟨n, rfl, hn⟩

/-- what a slice of such reads as: its cells lie in a block, or there are none -/
def SlRd (w : World) (sz : Nat) (ks : List Leaf) (v : Value) (es : List (List Value)) : Prop :=
  ∃ a cap, v = .slice a es.length cap ∧ (∀ e ∈ es, Leafs ks e) ∧ es.length ≤ cap ∧ cap ≤ maxLen ∧
    (es = [] ∨ ∃ b off l u fr, a = some ⟨b, off, none⟩ ∧ w.heap[b]? = some (.cells (List.toArray l) u fr) ∧ ∀ i, i < es.length → takeAt l (off + i * sz) sz = es[i]?)

theorem mapM_lists {α : Type} {f : Nat → Option α} : ∀ (n : Nat) (k : Nat), (∀ i, k ≤ i → i < k + n → ∃ x, f i = some x) → ∃ xs : List α, xs.length = n ∧ ∀ i, i < n → f (k + i) = xs[i]?
  | 0, k, _ => ⟨[], rfl, fun i hi => by omega⟩
  | n + 1, k, h => by
    obtain ⟨x, hx⟩ := h k (by omega) (by omega)
    obtain ⟨xs, h1, h2⟩ := mapM_lists n (k + 1) (fun i h1 h2 => h i (by omega) (by omega))
    refine ⟨x :: xs, by simp [h1], fun i hi => ?_⟩
    cases i with
    | zero => simpa using hx
    | succ i => rw [show k + (i + 1) = k + 1 + i by omega, h2 i (by omega)]; simp

theorem open_slice1 {t e : TypeId} {v : Value} {d : DataW H} {ps : List MemPlace} {ks : List Leaf} {n sz : Nat} (hu : sliceB P t = some e) (hk : leafs P n e = some ks) (hz : szB P e = some sz) (hp : 0 < sz) {r : Reach} {b0 : Nat} (hv : Value.okWide P w r b0 t v) (h : DataW.Trod enc P w base sp held t v d ps) :
    ∃ es, SlRd w sz ks v es := by
  unfold sliceB at hu
  split at hu
  · rename_i e' hu'
    simp at hu; subst hu
    obtain ⟨a, len, cap, rfl⟩ := okWide_slice hu' hv
    obtain ⟨fuel, hf⟩ := h
    have hsz : P.cellsOf e' = sz := by
      unfold szB at hz
      unfold Program.cellsOf
      rw [hz]; rfl
    cases fuel with
    | zero => simp [DataW.trod] at hf
    | succ fuel =>
      unfold DataW.trod at hf
      rw [hu'] at hf
      simp only [Value.cells] at hf
      cases a with
      | none =>
        cases len with
        | zero => cases cap with
          | zero => exact ⟨[], none, 0, rfl, by simp, by simp, by simp, .inl rfl⟩
          | succ c => simp at hf
        | succ l => simp at hf
      | some a =>
        simp only [] at hf
        split at hf
        · rename_i hb
          obtain ⟨hb0, hlc, hcm⟩ := hb
          cases hm : (List.range len).mapM (fun i => (w.cells? base (a.add (i * P.cellsOf e')) (P.cellsOf e')).bind (DataW.trod enc P w base sp held fuel e')) with
          | none => rw [hm] at hf; simp at hf
          | some xs =>
            have hall := mapM_range hm
            have hcell : ∀ i, i < len → ∃ cs, w.cells? base (a.add (i * sz)) sz = some cs ∧ Leafs ks cs := by
              intro i hi
              obtain ⟨x, hx⟩ := hall i hi
              rw [hsz] at hx
              cases hc : w.cells? base (a.add (i * sz)) sz with
              | none => rw [hc] at hx; simp at hx
              | some cs =>
                rw [hc] at hx
                simp at hx
                exact ⟨cs, rfl, leafs_open fuel n e' ks cs x.1 x.2 hk hx⟩
            obtain ⟨es, he1, he2⟩ := mapM_lists (f := fun i => w.cells? base (a.add (i * sz)) sz) len 0 (fun i _ hi => by
              obtain ⟨cs, h1, _⟩ := hcell i (by omega)
              exact ⟨cs, h1⟩)
            simp only [Nat.zero_add] at he2
            subst he1
            refine ⟨es, some a, cap, rfl, ?_, hlc, hcm, ?_⟩
            · intro x hx
              obtain ⟨i, hi, rfl⟩ := List.getElem_of_mem hx
              obtain ⟨cs, h1, h2⟩ := hcell i hi
              rw [he2 i hi, List.getElem?_eq_getElem hi] at h1
              simp at h1
              rw [h1]; exact h2
            · cases hes : es with
              | nil => exact .inl rfl
              | cons e0 es' =>
                right
                have h0 := he2 0 (by rw [hes]; simp)
                have hlen : 0 < es.length := by rw [hes]; simp
                rw [← hes]
                have cellj : ∀ i, i < es.length → ∀ j, j < sz → ∃ v, w.cell? ((a.add (i * sz)).add j) = some v ∧ ∃ cs, es[i]? = some cs ∧ cs.length = sz ∧ cs[j]? = some v := by
                  intro i hi j hj
                  have h1 := he2 i hi
                  rw [List.getElem?_eq_getElem hi] at h1
                  unfold World.cells? at h1
                  split at h1
                  · obtain ⟨v, hv⟩ := mapM_range h1 j hj
                    obtain ⟨cs, c1, c2⟩ := mapM_lists (f := fun j => w.cell? ((a.add (i * sz)).add j)) sz 0 (fun j _ hj => mapM_range h1 j (by omega))
                    have hl : ∀ (l : List Nat) (f : Nat → Option Value) (r : List Value), l.mapM f = some r → r.length = l.length ∧ ∀ k (hk : k < l.length), r[k]? = f l[k] := by
                      intro l
                      induction l with
                      | nil => intro f r h; simp at h; subst h; exact ⟨rfl, fun k hk => by simp at hk⟩
                      | cons y l ih =>
                        intro f r h
                        simp only [List.mapM_cons] at h
                        cases h2 : f y with
                        | none => rw [h2] at h; simp at h
                        | some z =>
                          rw [h2] at h
                          cases h3 : l.mapM f with
                          | none => rw [h3] at h; simp at h
                          | some zs =>
                            rw [h3] at h
                            simp at h
                            subst h
                            obtain ⟨q1, q2⟩ := ih f zs h3
                            refine ⟨by simp [q1], fun k hk => ?_⟩
                            cases k with
                            | zero => simp [h2]
                            | succ k => simpa using q2 k (by simpa using hk)
                    obtain ⟨q1, q2⟩ := hl _ _ _ h1
                    refine ⟨v, hv, es[i], List.getElem?_eq_getElem hi, by simpa using q1, ?_⟩
                    have := q2 j (by simpa using hj)
                    simp at this
                    rw [this, hv]
                  · cases h1
                obtain ⟨v0, hv0, _⟩ := cellj 0 hlen 0 hp
                obtain ⟨blk, off, spot⟩ := a
                have hspot : spot = none := by
                  cases spot with
                  | none => rfl
                  | some s =>
                    exfalso
                    unfold World.cell? at hv0
                    simp only [Addr.add, Nat.zero_mul, if_true] at hv0
                    split at hv0 <;> simp at hv0
                subst hspot
                simp only [add_at] at cellj hv0
                cases hbk : w.heap[blk]? with
                | none => simp [World.cell?, hbk] at hv0
                | some o =>
                  cases o with
                  | cells c u fr =>
                    have hb' : w.heap[blk]? = some (.cells (c.toList).toArray u fr) := by rw [hbk]
                    refine ⟨blk, off, c.toList, u, fr, rfl, by rw [hbk], fun i hi => ?_⟩
                    have hge : ∀ j, j < sz → ∃ v, c.toList[off + i * sz + j]? = some v ∧ ∃ cs, es[i]? = some cs ∧ cs.length = sz ∧ cs[j]? = some v := by
                      intro j hj
                      obtain ⟨v, h1, h2⟩ := cellj i hi j hj
                      rw [cell_at hb'] at h1
                      exact ⟨v, h1, h2⟩
                    have hbnd : off + i * sz + sz ≤ c.toList.length := by
                      obtain ⟨v, h1, _⟩ := hge (sz - 1) (by omega)
                      have := (List.getElem?_eq_some_iff.1 h1).1
                      omega
                    unfold takeAt
                    rw [if_pos hbnd, List.getElem?_eq_getElem hi]
                    congr 1
                    obtain ⟨_, _, cs0, e0, l0, _⟩ := hge 0 hp
                    rw [List.getElem?_eq_getElem hi] at e0
                    simp at e0
                    apply List.ext_getElem?
                    intro j
                    by_cases hj : j < sz
                    · obtain ⟨v, h1, cs, e1, _, h2⟩ := hge j hj
                      rw [List.getElem?_eq_getElem hi] at e1
                      simp at e1
                      rw [List.getElem?_take, if_pos hj, List.getElem?_drop, h1, e1, h2]
                    · rw [List.getElem?_take, if_neg hj, List.getElem?_eq_none (by rw [e0]; omega)]
                  | _ => simp [World.cell?, hbk] at hv0
        · cases hf
  · cases hu

/-- what a law's row asks of its walk -/
def LawOk (P : Program) (f : FuncId) (args : Array Value) (w : World) : Prop := Calls P f args w fun e w' => e = .returned (.bool true) ∧ Below w.heap.size w w'

theorem law_of {f : FuncId} {args : List Value} {X : Hp} (h : SpecV P f args X (.bool true)) (hX : ∀ e ∈ X, w.heap[e.1]? = some e.2) : LawOk P f args.toArray w :=
  (h w (fun e he => ⟨hX e he, by simp⟩) (by simp) (by simp)).mono fun e w' ⟨v, H', ⟨hv, _⟩, he, hk, _⟩ => ⟨by rw [he, hv], hk.below⟩
end
end Go.Sl
