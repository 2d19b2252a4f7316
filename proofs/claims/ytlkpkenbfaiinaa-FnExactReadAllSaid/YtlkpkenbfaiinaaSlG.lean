/- The rules of the small logic for slices: slicing, literals, make, append, copy. -/
import Derived.Test.YtlkpkenbfaiinaaSlF
namespace Go.Sl

def evN (E : Env) (o : Option Operand) (dflt : Nat) : Option Nat :=
  match o with
  | none => some dflt
  | some x =>
    match ev E x with
    | some (.int _ (.ofNat n)) => some n
    | _ => none
def bytesB (P : Program) (t : TypeId) : Option Nat := (P.info? t).map (·.bytes)
def placesB (P : Program) (t : TypeId) : Option (List (Nat × Nat) ⊕ Nat) :=
  match P.underlying t with
  | some (.struct fs) => some (.inl (fs.toList.map fun f => (f.offset, (szB P f.type).getD 0)))
  | some (.array _ e) => (szB P e).map .inr
  | _ => none
def placeOf : List (Nat × Nat) ⊕ Nat → Nat → Option (Nat × Nat)
  | .inl l, i => l[i]?
  | .inr s, i => some (i * s, s)
def fillL (pl : List (Nat × Nat) ⊕ Nat) : List Value → List (Nat × Value) → Option (List Value)
  | cs, [] => some cs
  | cs, (i, v) :: rest =>
    match placeOf pl i with
    | none => none
    | some (off, size) => bif Nat.beq v.cells.toList.length size && Nat.ble (off + size) cs.length then fillL pl (putL cs off v.cells.toList) rest else none
def evps (E : Env) : List (Nat × Operand) → Option (List (Nat × Value))
  | [] => some []
  | (i, x) :: ps => (ev E x).bind fun v => (evps E ps).map ((i, v) :: ·)

section run
variable {P : Program} {w : World}

theorem fold_put : ∀ (vs : List Value) (off k : Nat) (cs : List Value), ((vs.zipIdx k).foldl (fun (cs : Array Value) (x : Value × Nat) => cs.setIfInBounds (off + x.2) x.1) cs.toArray) = (putL cs (off + k) vs).toArray
  | [], off, k, cs => rfl
  | v :: vs, off, k, cs => by
    simp only [List.zipIdx_cons, List.foldl_cons, putL]
    rw [List.setIfInBounds_toArray, fold_put vs off (k + 1) (cs.set (off + k) v)]
    rfl

theorem fill_eq {pl : List (Nat × Nat) ⊕ Nat} {place : Nat → Option (Nat × Nat)} (hp : ∀ i, place i = placeOf pl i) : ∀ (vs : List (Nat × Value)) (cs l : List Value), fillL pl cs vs = some l → Instr.fill place cs.toArray vs = some l.toArray
  | [], cs, l, h => by simp [fillL] at h; simp [Instr.fill, h]
  | (i, v) :: rest, cs, l, h => by
    unfold fillL at h
    unfold Instr.fill
    rw [hp]
    cases hq : placeOf pl i with
    | none => rw [hq] at h; cases h
    | some os =>
      obtain ⟨off, size⟩ := os
      rw [hq] at h
      simp only [] at h ⊢
      cases hb : (Nat.beq v.cells.toList.length size && Nat.ble (off + size) cs.length) with
      | false => rw [hb] at h; cases h
      | true =>
        rw [hb] at h
        simp only [Bool.and_eq_true, Nat.beq_eq, Nat.ble_eq] at hb
        have h1 : v.cells.size = size := by simpa using hb.1
        rw [if_neg (by simp [h1]; exact hb.2)]
        have : (v.cells.zipIdx.foldl (fun cs (x : Value × Nat) => cs.setIfInBounds (off + x.2) x.1) cs.toArray) = (putL cs off v.cells.toList).toArray := by
          rw [← Array.foldl_toList, Array.toList_zipIdx]
          have := fold_put v.cells.toList off 0 cs
          simpa using this
        rw [show (v.cells.zipIdx.foldl (fun cs x => match x with | (c, j) => cs.setIfInBounds (off + j) c) cs.toArray) = (putL cs off v.cells.toList).toArray from this]
        exact fill_eq hp rest _ l (by simpa using h)

theorem flat_get (zl : List Value) (n i : Nat) (hi : i < n * zl.length) : (List.replicate n zl).flatten[i]? = zl[i % zl.length]? := by
  induction n generalizing i with
  | zero => simp at hi
  | succ n ih =>
    rw [List.replicate_succ, List.flatten_cons]
    by_cases h : i < zl.length
    · rw [List.getElem?_append_left h, Nat.mod_eq_of_lt h]
    · rw [List.getElem?_append_right (by omega), ih (i - zl.length) (by rw [Nat.add_mul] at hi; omega)]
      congr 1
      rw [Nat.mod_eq_sub_mod (by omega : zl.length ≤ i)]
theorem zeros_eq (zl : List Value) (n : Nat) : ((Array.range (n * zl.length)).map fun i => zl.toArray[i % zl.toArray.size]!) = (List.replicate n zl).flatten.toArray := by
  apply Array.ext_getElem?
  intro i
  by_cases hi : i < n * zl.length
  · have hpos : 0 < zl.length := by
      rcases Nat.eq_zero_or_pos zl.length with h | h
      · rw [h] at hi; simp at hi
      · exact h
    have hm : i % zl.length < zl.length := Nat.mod_lt _ hpos
    rw [show ((List.replicate n zl).flatten.toArray)[i]? = zl[i % zl.length]? from by rw [List.getElem?_toArray]; exact flat_get zl n i hi]
    simp [hi, hm]
  · rw [Array.getElem?_eq_none (by simp; omega), Array.getElem?_eq_none (by
      simp only [List.size_toArray, List.length_flatten, List.map_replicate, List.sum_replicate_nat]; omega)]
end run

section
variable {c : Ctx} {E : Env} {H H' : Hp} {Q : Exit → Act → World → Prop} {ops : Array Oper} {rest : List Oper} {d : Nat} {ty : TypeId} {pos : String} {af : Array Edge} {g : Option (Nat × Bool)} {x y z : Operand}
variable {b off : Nat} {l : List Value} {t u : TypeId} {fr : Nat × Nat} {v : Value}

theorem evN_run {a : Act} {w : World} (hs : Sat c E H a w) {o : Option Operand} {df n : Nat} (h : evN E o df = some n) : (o = none ∧ n = df) ∨ ∃ x k, o = some x ∧ a.eval x = .int k (n : Int) := by
  unfold evN at h
  split at h
  · simp at h; exact .inl ⟨rfl, h.symm⟩
  · rename_i x
    right
    split at h
    · rename_i k m hm
      simp at h
      subst h
      exact ⟨x, k, rfl, hs.ev hm⟩
    · cases h

theorem run_bounds {P : Program} {a : Act} {w : World} {isS : Bool} {len cap lo hi mx : Nat} {xl xh xm : Option Operand} (hs : Sat c E H a w) (hl : evN E xl 0 = some lo) (hh : evN E xh len = some hi) (hm : evN E xm cap = some mx) (hx : xm = none ∨ ∃ q, xh = some q)
    (h1 : lo ≤ hi ∧ hi ≤ mx) (h2 : mx ≤ cap) : (Instr.sliceBounds isS len cap (xl.map a.eval) (xh.map a.eval) (xm.map a.eval)).run P w = .ok (lo, hi, mx) w := by
  rcases evN_run hs hl with ⟨rfl, rfl⟩ | ⟨ql, kl, rfl, el⟩ <;> rcases evN_run hs hh with ⟨rfl, rfl⟩ | ⟨qh, kh, rfl, eh⟩ <;> rcases evN_run hs hm with ⟨rfl, rfl⟩ | ⟨qm, km, rfl, em⟩
  all_goals first
    | (exfalso; rcases hx with hx | ⟨q, hx⟩ <;> simp at hx; done)
    | skip
  all_goals simp [Instr.sliceBounds, Instr.sliceBound, asIntOf, *]
  all_goals omega

theorem p_sliceA0 {m sz len mm : Nat} {e : TypeId} {xh xm : Option Operand} (ha : arrB c.P t = some (m, e)) (hz : szB c.P e = some sz) (hx : ev E x = some (.pointer (some ⟨b, off, none⟩))) (hl : evN E none 0 = some 0) (hh : evN E xh m = some len) (hm : evN E xm m = some mm) (h0 : (xm.isNone || xh.isSome) = true) (h1 : len ≤ mm) (h2 : mm ≤ m) :
    PR c E H ⟨some d, .slice t x none xh xm, ty, pos, af, g⟩ (.slice (some ⟨b, off, none⟩) len mm) := fun a w hs => by
  unfold arrB at ha
  split at ha
  · rename_i m' e' hu
    simp at ha
    obtain ⟨rfl, rfl⟩ := ha
    have hb := run_bounds (P := c.P) (isS := false) (w := w) hs hl hh hm (by cases xm <;> cases xh <;> simp at h0 ⊢) ⟨Nat.zero_le _, h1⟩ h2
    simp only [Option.map_none] at hb
    simp [execOp, hs.ev hx, Instr.sliceAt, run_underlying hu, Instr.sureAddr, hb, run_sz hz, Addr.add]
  · cases ha

theorem p_sliceA {m sz lo len mm : Nat} {e : TypeId} {xl xh xm : Option Operand} (ha : arrB c.P t = some (m, e)) (hz : szB c.P e = some sz) (hx : ev E x = some (.pointer (some ⟨b, off, none⟩))) (hl : evN E xl 0 = some lo) (hh : evN E xh m = some len) (hm : evN E xm m = some mm) (h0 : (xm.isNone || xh.isSome) = true) (h1 : lo ≤ len ∧ len ≤ mm) (h2 : mm ≤ m) :
    PR c E H ⟨some d, .slice t x xl xh xm, ty, pos, af, g⟩ (.slice (some ⟨b, if mm = lo then off else off + lo * sz, none⟩) (len - lo) (mm - lo)) := fun a w hs => by
  unfold arrB at ha
  split at ha
  · rename_i m' e' hu
    simp at ha
    obtain ⟨rfl, rfl⟩ := ha
    have hb := run_bounds (P := c.P) (isS := false) (w := w) hs hl hh hm (by cases xm <;> cases xh <;> simp at h0 ⊢) h1 h2
    simp [execOp, hs.ev hx, Instr.sliceAt, run_underlying hu, Instr.sureAddr, hb, run_sz hz, add_at]
    split <;> rfl
  · cases ha

theorem p_sliceS {n cap sz lo len mm : Nat} {e : TypeId} {xl xh xm : Option Operand} (ha : sliceB c.P t = some e) (hz : szB c.P e = some sz) (hx : ev E x = some (.slice (some ⟨b, off, none⟩) n cap)) (hl : evN E xl 0 = some lo) (hh : evN E xh n = some len) (hm : evN E xm cap = some mm) (h0 : (xm.isNone || xh.isSome) = true) (h1 : lo ≤ len ∧ len ≤ mm) (h2 : mm ≤ cap) :
    PR c E H ⟨some d, .slice t x xl xh xm, ty, pos, af, g⟩ (.slice (some ⟨b, if mm = lo then off else off + lo * sz, none⟩) (len - lo) (mm - lo)) := fun a w hs => by
  unfold sliceB at ha
  split at ha
  · rename_i e' hu
    simp at ha
    subst ha
    have hb := run_bounds (P := c.P) (isS := true) (w := w) hs hl hh hm (by cases xm <;> cases xh <;> simp at h0 ⊢) h1 h2
    simp [execOp, hs.ev hx, Instr.sliceAt, Instr.slice, run_underlying hu, hb, run_sz hz, add_at]
    split <;> rfl
  · cases ha

theorem p_sliceS0 {n cap sz len mm : Nat} {e : TypeId} {xh xm : Option Operand} (ha : sliceB c.P t = some e) (hz : szB c.P e = some sz) (hx : ev E x = some (.slice (some ⟨b, off, none⟩) n cap)) (hl : evN E none 0 = some 0) (hh : evN E xh n = some len) (hm : evN E xm cap = some mm) (h0 : (xm.isNone || xh.isSome) = true) (h1 : len ≤ mm) (h2 : mm ≤ cap) :
    PR c E H ⟨some d, .slice t x none xh xm, ty, pos, af, g⟩ (.slice (some ⟨b, off, none⟩) len mm) := fun a w hs => by
  have := p_sliceS (ty := ty) (pos := pos) (af := af) (g := g) (d := d) (xl := none) (H := H) ha hz hx hl hh hm h0 ⟨Nat.zero_le _, h1⟩ h2 a w hs
  simpa using this

theorem p_sliceNil {sz : Nat} {e : TypeId} {xl xh xm : Option Operand} (ha : sliceB c.P t = some e) (hz : szB c.P e = some sz) (hx : ev E x = some (.slice none 0 0)) (hl : evN E xl 0 = some 0) (hh : evN E xh 0 = some 0) (hm : evN E xm 0 = some 0) (h0 : (xm.isNone || xh.isSome) = true) :
    PR c E H ⟨some d, .slice t x xl xh xm, ty, pos, af, g⟩ (.slice none 0 0) := fun a w hs => by
  unfold sliceB at ha
  split at ha
  · rename_i e' hu
    simp at ha
    subst ha
    have hb := run_bounds (P := c.P) (isS := true) (w := w) (len := 0) (cap := 0) hs hl hh hm (by cases xm <;> cases xh <;> simp at h0 ⊢) ⟨Nat.zero_le _, Nat.zero_le _⟩ (Nat.le_refl _)
    simp [execOp, hs.ev hx, Instr.sliceAt, Instr.slice, run_underlying hu, hb, run_sz hz]
  · cases ha

theorem p_sliceStr {s : ByteArray} {lo hi : Nat} {xl xh : Option Operand} (hu : c.P.underlying t = some .string) (hx : ev E x = some (.string s)) (hl : evN E xl 0 = some lo) (hh : evN E xh s.size = some hi) (h1 : lo ≤ hi ∧ hi ≤ s.size) :
    PR c E H ⟨some d, .slice t x xl xh none, ty, pos, af, g⟩ (.string (s.extract lo hi)) := fun a w hs => by
  have hb := run_bounds (P := c.P) (isS := false) (w := w) (xm := none) (cap := s.size) hs hl hh rfl (.inl rfl) h1 (Nat.le_refl _)
  simp only [Option.map_none] at hb
  simp [execOp, hs.ev hx, Instr.sliceAt, Instr.slice, run_underlying hu, hb]

theorem evps_run {a : Act} {w : World} (hs : Sat c E H a w) : ∀ {ps : List (Nat × Operand)} {vs : List (Nat × Value)}, evps E ps = some vs → ps.map (fun p => (p.1, a.eval p.2)) = vs
  | [], vs, h => by simpa [evps] using h
  | (i, x) :: ps, vs, h => by
    unfold evps at h
    cases h1 : ev E x with
    | none => rw [h1] at h; simp at h
    | some v =>
      cases h2 : evps E ps with
      | none => rw [h1, h2] at h; simp at h
      | some us =>
        rw [h1, h2] at h
        simp at h
        rw [← h, List.map_cons, hs.ev h1, evps_run hs h2]

theorem run_places {P : Program} {w : World} {fs : List Field} : ∀ pl : List (Nat × Nat), (fs.map fun f => (f.offset, (szB P f.type).getD 0)) = pl → (∀ f ∈ fs, (szB P f.type).isSome = true) →
    (fs.mapM (fun f => (do pure (f.offset, ← sizeOf f.type) : Sem (Nat × Nat)))).run P w = .ok pl w := by
  induction fs with
  | nil => intro pl h _; simp at h; subst h; simp
  | cons f fs ih =>
    intro pl h hs
    obtain ⟨n, hn⟩ := Option.isSome_iff_exists.1 (hs f List.mem_cons_self)
    subst h
    have := ih _ rfl (fun f hf => hs f (List.mem_cons_of_mem _ hf))
    simp [List.mapM_cons, run_sz hn] at this ⊢
    simp [this, hn]

def allSz (P : Program) (t : TypeId) : Bool := match P.underlying t with | some (.struct fs) => fs.toList.all fun f => (szB P f.type).isSome | _ => true

theorem p_build {zl l : List Value} {pl : List (Nat × Nat) ⊕ Nat} {ps : List (Nat × Operand)} {vs : List (Nat × Value)} (hz : zeroB c.P t = some zl) (hp : placesB c.P t = some pl) (hal : allSz c.P t = true) (hv : evps E ps = some vs) (hf : fillL pl zl vs = some l) :
    PR c E H ⟨some d, .build t ps.toArray, ty, pos, af, g⟩ (.agg l.toArray) := fun a w hs => by
  obtain ⟨zv, h1, h2⟩ := run_zero (P := c.P) (w := w) hz
  have hps := evps_run hs hv
  unfold placesB at hp
  unfold allSz at hal
  split at hp
  · rename_i fs hu
    simp at hp; subst hp
    rw [hu] at hal
    have hpl := run_places (P := c.P) (w := w) (fs := fs.toList) _ rfl (fun f hf => (List.all_eq_true.1 hal) f hf)
    have hfill := fill_eq (place := fun i => (fs.toList.map fun f => (f.offset, (szB c.P f.type).getD 0)).toArray[i]?) (pl := .inl (fs.toList.map fun f => (f.offset, (szB c.P f.type).getD 0))) (fun i => by simp [placeOf]) vs zl l hf
    have hm : fs.mapM (fun f => (do pure (f.offset, ← sizeOf f.type) : Sem (Nat × Nat))) = List.toArray <$> fs.toList.mapM (fun f => (do pure (f.offset, ← sizeOf f.type) : Sem (Nat × Nat))) := Array.mapM_eq_mapM_toList
    have hmr : (fs.mapM (fun f => (do pure (f.offset, ← sizeOf f.type) : Sem (Nat × Nat)))).run c.P w = .ok (fs.toList.map fun f => (f.offset, (szB c.P f.type).getD 0)).toArray w := by
      rw [hm, Sem.run_map, hpl]; rfl
    simp only [execOp, Instr.build, Sem.run_bind, h1, Result.andThen, h2, run_underlying hu, List.map_toArray, hps, hmr, hfill, Sem.run_pure]
  · rename_i m e hu
    simp at hp
    obtain ⟨sz, hsz, rfl⟩ := hp
    have hfill := fill_eq (place := fun i => some (i * sz, sz)) (pl := .inr sz) (fun i => rfl) vs zl l hf
    simp only [execOp, Instr.build, Sem.run_bind, h1, Result.andThen, h2, run_underlying hu, List.map_toArray, hps, run_sz hsz, hfill, Sem.run_pure]
  · cases hp
end
end Go.Sl
