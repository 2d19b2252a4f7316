/- The rules of the small logic for operations that read or make or write memory. -/
import Derived.Test.YtlkpkenbfaiinaaSlB
namespace Go.Sl

def aggB (P : Program) (t : TypeId) : Option Bool :=
  match P.underlying t with
  | some (.struct _) => some true
  | some (.array _ _) => some true
  | some _ => some false
  | none => none
def szB (P : Program) (t : TypeId) : Option Nat := (P.info? t).map (·.size)
def zeroB (P : Program) (t : TypeId) : Option (List Value) := ((P.info? t).bind (·.zero)).map (·.cells.toList)
def fieldB (P : Program) (t : TypeId) (f : Nat) : Option (Nat × TypeId) :=
  match P.underlying t with
  | some (.struct fs) =>
    match fs[f]? with
    | some fl => match szB P fl.type with
      | some 0 => none
      | some _ => some (fl.offset, fl.type)
      | none => none
    | none => none
  | _ => none
def sliceB (P : Program) (t : TypeId) : Option TypeId := match P.underlying t with | some (.slice e) => some e | _ => none
def arrB (P : Program) (t : TypeId) : Option (Nat × TypeId) := match P.underlying t with | some (.array n e) => some (n, e) | _ => none

section run
variable {P : Program} {w : World} {t : TypeId}
theorem run_sz {n : Nat} (h : szB P t = some n) : (sizeOf t).run P w = .ok n w := by
  unfold szB at h
  cases hi : P.info? t with
  | none => rw [hi] at h; cases h
  | some i =>
    rw [hi] at h; simp at h
    simp [sizeOf, typeInfo, hi, h]
theorem run_agg {b : Bool} (h : aggB P t = some b) : (isAgg t).run P w = .ok b w := by
  unfold aggB at h
  split at h
  · rename_i fs hu; simp at h; subst h; simp [isAgg, run_underlying hu]
  · rename_i n e hu; simp at h; subst h; simp [isAgg, run_underlying hu]
  · rename_i d h1 h2 hu
    simp at h; subst h
    cases d <;> first | (exact (h1 _ rfl).elim) | (exact (h2 _ _ rfl).elim) | simp [isAgg, run_underlying hu]
  · cases h
theorem run_zero {l : List Value} (h : zeroB P t = some l) : ∃ v, (zeroValue t).run P w = .ok v w ∧ v.cells = l.toArray := by
  unfold zeroB at h
  cases hi : P.info? t with
  | none => rw [hi] at h; cases h
  | some i =>
    rw [hi] at h
    cases hz : i.zero with
    | none => simp [hz] at h
    | some v =>
      simp [hz] at h
      exact ⟨v, by simp [zeroValue, typeInfo, hi, hz], by rw [← h]⟩

variable {b off : Nat} {l : List Value} {u : TypeId} {fr : Nat × Nat}
theorem cell_at (hb : w.heap[b]? = some (.cells l.toArray u fr)) : w.cell? ⟨b, off, none⟩ = l[off]? := by
  simp [World.cell?, hb]
theorem add_at (i : Nat) : Addr.add ⟨b, off, none⟩ i = ⟨b, off + i, none⟩ := by
  unfold Addr.add; split
  · rename_i h; subst h; rfl
  · rfl
theorem run_load1 {v : Value} (hb : w.heap[b]? = some (.cells l.toArray u fr)) (hv : l[off]? = some v) (m : Mode) : (load ⟨b, off, none⟩ m).run P w = .ok v w := by
  have := cell_at (off := off) hb
  rw [hv] at this
  simp [load, Sem.run, this]
theorem run_loadFrom (hb : w.heap[b]? = some (.cells l.toArray u fr)) : ∀ (n i : Nat) (acc : Array Value), off + i + n ≤ l.length → (loadCellsFrom ⟨b, off, none⟩ i n acc).run P w = .ok (acc ++ ((l.drop (off + i)).take n).toArray) w
  | 0, i, acc, _ => by simp [loadCellsFrom]
  | n + 1, i, acc, h => by
    have h1 : off + i < l.length := by omega
    have hv : l[off + i]? = some l[off + i] := List.getElem?_eq_getElem h1
    have := run_load1 (P := P) hb hv .plain
    have ih := run_loadFrom hb n (i + 1) (acc.push l[off + i]) (by omega)
    simp only [loadCellsFrom, add_at, Sem.run_bind, this, Result.andThen, ih]
    rw [List.drop_eq_getElem_cons h1, List.take_succ_cons]
    simp [Nat.add_assoc]
theorem run_loadN (hb : w.heap[b]? = some (.cells l.toArray u fr)) (n : Nat) (h : off + n ≤ l.length) : (loadCells ⟨b, off, none⟩ n).run P w = .ok ((l.drop off).take n).toArray w := by
  have := run_loadFrom (P := P) (off := off) hb n 0 #[] (by omega)
  simpa [loadCells] using this

def wset (w : World) (b : Nat) (o : Obj) : World := { w with heap := w.heap.setIfInBounds b o }
theorem setCell_eq (hb : w.heap[b]? = some (.cells l.toArray u fr)) (v : Value) : w.setCell ⟨b, off, none⟩ v = wset w b (.cells (l.set off v).toArray u fr) := by
  unfold World.setCell wset
  congr 1
  apply Array.ext_getElem?
  intro i
  rw [Array.getElem?_modify, Array.getElem?_setIfInBounds]
  by_cases h : b = i
  · subst h
    have := getElem?_lt hb
    rw [if_pos rfl, if_pos rfl, if_pos this, hb]
    simp
  · rw [if_neg h, if_neg h]
theorem wset_self {o : Obj} (h : b < w.heap.size) : (wset w b o).heap[b]? = some o := by
  simp [wset, h]
theorem wset_ne {o : Obj} {k : Nat} (h : k ≠ b) : (wset w b o).heap[k]? = w.heap[k]? := by
  simp only [wset]
  rw [Array.getElem?_setIfInBounds, if_neg (fun e => h e.symm)]
theorem wset_wset {o o' : Obj} : wset (wset w b o) b o' = wset w b o' := by
  simp [wset]
theorem frozen_no (hb : w.heap[b]? = some (.cells l.toArray u (0, 0))) : w.frozen? ⟨b, off, none⟩ = false := by
  simp [World.frozen?, hb]

def one : Value → Bool
  | .agg _ => false
  | .tuple _ => false
  | _ => true

def putL (l : List Value) : Nat → List Value → List Value
  | _, [] => l
  | off, v :: vs => putL (l.set off v) (off + 1) vs
theorem putL_length : ∀ (vs : List Value) (l : List Value) (off : Nat), (putL l off vs).length = l.length
  | [], l, off => rfl
  | v :: vs, l, off => by simp [putL, putL_length vs]

theorem run_store1 {v : Value} (hb : w.heap[b]? = some (.cells l.toArray u (0, 0))) (hl : off < l.length) (h1 : one v = true) (m : Mode) :
    (store ⟨b, off, none⟩ v m).run P w = .ok () (wset w b (.cells (l.set off v).toArray u (0, 0))) := by
  have hc : w.cell? ⟨b, off, none⟩ = some l[off] := by rw [cell_at hb]; exact List.getElem?_eq_getElem hl
  have hf := frozen_no (off := off) hb
  rw [← setCell_eq hb]
  cases v <;> first | (simp [one] at h1; done) | simp [store, Sem.run, hc, hf]

theorem run_storeN (hb : w.heap[b]? = some (.cells l.toArray u (0, 0))) : ∀ (vs : List Value) (i : Nat), off + i + vs.length ≤ l.length → (∀ v ∈ vs, one v = true) →
    (storeCells ⟨b, off, none⟩ vs i).run P w = .ok () (wset w b (.cells (putL l (off + i) vs).toArray u (0, 0))) := by
  intro vs
  induction vs generalizing w l with
  | nil =>
    intro i _ _
    have hb' := getElem?_lt hb
    have : wset w b (.cells (putL l (off + i) []).toArray u (0, 0)) = w := by
      simp only [putL, wset]
      congr 1
      apply Array.ext_getElem?
      intro k
      rw [Array.getElem?_setIfInBounds]
      by_cases h : b = k
      · subst h; rw [if_pos rfl, if_pos hb', hb]
      · rw [if_neg h]
    rw [this]
    simp [storeCells]
  | cons v vs ih =>
    intro i h hv
    have h0 : off + i < l.length := by simp at h; omega
    have hs := run_store1 (P := P) (off := off + i) (v := v) hb h0 (hv v List.mem_cons_self) .plain
    have hb2 : (wset w b (.cells (l.set (off + i) v).toArray u (0, 0))).heap[b]? = some (.cells (l.set (off + i) v).toArray u (0, 0)) := wset_self (getElem?_lt hb)
    have := ih hb2 (i + 1) (by simp at h ⊢; omega) (fun x hx => hv x (List.mem_cons_of_mem _ hx))
    simp only [storeCells, add_at, Sem.run_bind, hs, Result.andThen, this, wset_wset, putL]
    simp [Nat.add_assoc]
end run

section
variable {c : Ctx} {E : Env} {H H' : Hp} {Q : Exit → Act → World → Prop} {ops : Array Oper} {rest : List Oper} {d : Nat} {ty : TypeId} {pos : String} {af : Array Edge} {g : Option (Nat × Bool)} {x y z : Operand}

theorem Sat.upd {a : Act} {w : World} {b : Nat} {o o' : Obj} (h : Sat c E H a w) (u : Up b o o' H H') : Sat c E H' a (wset w b o') := by
  have hm := u.mem
  have hown := h.orig _ hm
  have hlt := h.lt hm
  refine ⟨⟨h.keep.os, h.keep.tape, h.keep.output, by simpa [wset] using h.keep.size, fun k hk hkM => ?_⟩, h.rd, h.env, h.size, h.nodef, ?_, ?_, ?_⟩
  · have e : k ≠ b := by
      rintro rfl
      rcases hown with h1 | h1
      · simp at h1; omega
      · exact hkM h1
    rw [wset_ne e]; exact h.keep.block k hk hkM
  · intro e he
    rcases u.of h.nodup e he with rfl | ⟨h1, h2⟩
    · exact wset_self hlt
    · rw [wset_ne h2]; exact h.own e h1
  · intro e he
    rcases u.of h.nodup e he with rfl | ⟨h1, h2⟩
    · exact hown
    · exact h.orig e h1
  · rw [u.keys]; exact h.nodup

variable {b off : Nat} {l : List Value} {t u : TypeId} {fr : Nat × Nat} {v : Value}

theorem p_load (ha : aggB c.P t = some false) (hx : ev E x = some (.pointer (some ⟨b, off, none⟩))) (hm : In (b, .cells l.toArray u fr) c.X H) (hv : l[off]? = some v) : PR c E H ⟨some d, .load t x, ty, pos, af, g⟩ (v) :=
  (fun a w hs => by
    have h1 : w.cell? ⟨b, off, none⟩ = some v := by rw [cell_at (hs.at hm), hv]
    simp [execOp, hs.ev hx, Instr.loadAt, Instr.sureAddr, loadVar, run_agg ha, h1])
theorem r_load (ha : aggB c.P t = some false) (hg : gdB ops E g = some true) (hd : Nat.blt d c.n = true) (hx : ev E x = some (.pointer (some ⟨b, off, none⟩))) (hm : In (b, .cells l.toArray u fr) c.X H) (hv : l[off]? = some v)
    (k : K c (wpList c.P ops Q rest) ((d, v) :: E) H) : K c (wpList c.P ops Q (⟨some d, .load t x, ty, pos, af, g⟩ :: rest)) E H :=
  op_pure hg hd (fun a w hs => by
    have h1 : w.cell? ⟨b, off, none⟩ = some v := by rw [cell_at (hs.at hm), hv]
    simp [execOp, hs.ev hx, Instr.loadAt, Instr.sureAddr, loadVar, run_agg ha, h1]) k

def takeAt (l : List Value) (off n : Nat) : Option (List Value) := if off + n ≤ l.length then some ((l.drop off).take n) else none

theorem p_loadA {n : Nat} {vs : List Value} (ha : aggB c.P t = some true) (hz : szB c.P t = some n) (hx : ev E x = some (.pointer (some ⟨b, off, none⟩))) (hm : In (b, .cells l.toArray u fr) c.X H) (hv : takeAt l off n = some vs) : PR c E H ⟨some d, .load t x, ty, pos, af, g⟩ (.agg vs.toArray) :=
  (fun a w hs => by
    unfold takeAt at hv
    split at hv
    · rename_i hle
      simp at hv
      have h1 := run_loadN (P := c.P) (off := off) (hs.at hm) n hle
      rw [hv] at h1
      simp [execOp, hs.ev hx, Instr.loadAt, Instr.sureAddr, loadVar, run_agg ha, run_sz hz, h1]
    · cases hv)
theorem r_loadA {n : Nat} {vs : List Value} (ha : aggB c.P t = some true) (hz : szB c.P t = some n) (hg : gdB ops E g = some true) (hd : Nat.blt d c.n = true) (hx : ev E x = some (.pointer (some ⟨b, off, none⟩))) (hm : In (b, .cells l.toArray u fr) c.X H) (hv : takeAt l off n = some vs)
    (k : K c (wpList c.P ops Q rest) ((d, .agg vs.toArray) :: E) H) : K c (wpList c.P ops Q (⟨some d, .load t x, ty, pos, af, g⟩ :: rest)) E H :=
  op_pure hg hd (fun a w hs => by
    unfold takeAt at hv
    split at hv
    · rename_i hle
      simp at hv
      have h1 := run_loadN (P := c.P) (off := off) (hs.at hm) n hle
      rw [hv] at h1
      simp [execOp, hs.ev hx, Instr.loadAt, Instr.sureAddr, loadVar, run_agg ha, run_sz hz, h1]
    · cases hv) k

theorem op_store {op : Op} {o' : Obj} {o : Obj} (hg : gdB ops E g = some true) (hu : Up b o o' H H')
    (hrun : ∀ a w, Sat c E H a w → (execOp a.eval ⟨none, op, ty, pos, af, g⟩).run c.P w = .ok .skip (wset w b o'))
    (k : K c (wpList c.P ops Q rest) E H') : K c (wpList c.P ops Q (⟨none, op, ty, pos, af, g⟩ :: rest)) E H :=
  op_step hg fun a w hs => by
    unfold Oper.wp
    rw [hrun a w hs, Oper.upon_skip]
    exact k _ _ ((hs.upd hu).put_none _)

theorem r_store (hz : szB c.P t = some 1) (hg : gdB ops E g = some true) (hx : ev E x = some (.pointer (some ⟨b, off, none⟩))) (hy : ev E y = some v) (h1 : one v = true)
    (hu : Up b (.cells l.toArray u (0, 0)) (.cells (l.set off v).toArray u (0, 0)) H H') (hl : Nat.blt off l.length = true)
    (k : K c (wpList c.P ops Q rest) E H') : K c (wpList c.P ops Q (⟨none, .store t x y, ty, pos, af, g⟩ :: rest)) E H :=
  op_store hg hu (fun a w hs => by
    have hb := hs.own _ hu.mem
    have hl' : off < l.length := by simpa [Nat.blt_eq] using hl
    have hr := run_storeN (P := c.P) (off := off) hb [v] 0 (by simp; omega) (by simpa using h1)
    have hc : v.cells = #[v] := by cases v <;> first | rfl | (simp [one] at h1)
    simp only [putL] at hr
    simp [execOp, hs.ev hx, hs.ev hy, Instr.storeAt, Instr.sureAddr, storeVar, run_sz hz, hc, hr]) k

theorem r_storeA {n : Nat} {vs : List Value} (hz : szB c.P t = some n) (hg : gdB ops E g = some true) (hx : ev E x = some (.pointer (some ⟨b, off, none⟩))) (hy : ev E y = some (.agg vs.toArray)) (hn : vs.length = n) (h1 : vs.all one = true)
    (hu : Up b (.cells l.toArray u (0, 0)) (.cells (putL l off vs).toArray u (0, 0)) H H') (hl : Nat.ble (off + n) l.length = true)
    (k : K c (wpList c.P ops Q rest) E H') : K c (wpList c.P ops Q (⟨none, .store t x y, ty, pos, af, g⟩ :: rest)) E H :=
  op_store hg hu (fun a w hs => by
    have hb := hs.own _ hu.mem
    have hl' : off + n ≤ l.length := by simpa [Nat.ble_eq] using hl
    have hr := run_storeN (P := c.P) (off := off) hb vs 0 (by omega) (by simpa using h1)
    simp only [Nat.add_zero] at hr
    simp [execOp, hs.ev hx, hs.ev hy, Instr.storeAt, Instr.sureAddr, storeVar, run_sz hz, Value.cells, hn, hr]) k

theorem op_new {op : Op} {o : Obj} {v : Nat → Value} (hg : gdB ops E g = some true) (hd : Nat.blt d c.n = true)
    (hrun : ∀ a w, Sat c E H a w → (execOp a.eval ⟨some d, op, ty, pos, af, g⟩).run c.P w = .ok (.value (v w.heap.size)) { w with heap := w.heap.push o })
    (k : ∀ b, K c (wpList c.P ops Q rest) ((d, v b) :: E) ((b, o) :: H)) : K c (wpList c.P ops Q (⟨some d, op, ty, pos, af, g⟩ :: rest)) E H :=
  op_step hg fun a w hs => by
    unfold Oper.wp
    rw [hrun a w hs, Oper.upon_value]
    exact k _ _ _ ((hs.alloc o).put hd _)

theorem r_alloc (hz : zeroB c.P t = some l) (hg : gdB ops E g = some true) (hd : Nat.blt d c.n = true)
    (k : ∀ b, K c (wpList c.P ops Q rest) ((d, .pointer (some ⟨b, 0, none⟩)) :: E) ((b, .cells l.toArray t (0, 0)) :: H)) : K c (wpList c.P ops Q (⟨some d, .alloc t, ty, pos, af, g⟩ :: rest)) E H :=
  op_new (v := fun b => .pointer (some ⟨b, 0, none⟩)) hg hd (fun a w hs => by
    obtain ⟨v, h1, h2⟩ := run_zero (P := c.P) (w := w) hz
    simp [execOp, Instr.alloc, h1, newVar, newRow, newObj, Sem.run, h2]) k

theorem r_box {vs : List Value} (hg : gdB ops E g = some true) (hd : Nat.blt d c.n = true) (hx : ev E x = some v) (hv : v.cells = vs.toArray)
    (k : ∀ b, K c (wpList c.P ops Q rest) ((d, .pointer (some ⟨b, 0, none⟩)) :: E) ((b, .cells vs.toArray t (0, 0)) :: H)) : K c (wpList c.P ops Q (⟨some d, .box t x, ty, pos, af, g⟩ :: rest)) E H :=
  op_new (v := fun b => .pointer (some ⟨b, 0, none⟩)) hg hd (fun a w hs => by
    simp [execOp, Instr.box, hs.ev hx, newVar, newRow, newObj, Sem.run, hv]) k

theorem p_fieldAddr {f o : Nat} {ft : TypeId} (hf : fieldB c.P t f = some (o, ft)) (hx : ev E x = some (.pointer (some ⟨b, off, none⟩))) : PR c E H ⟨some d, .fieldAddr t x f, ty, pos, af, g⟩ (.pointer (some ⟨b, off + o, none⟩)) :=
  (fun a w hs => by
    unfold fieldB at hf
    split at hf
    · rename_i fs hu
      split at hf
      · rename_i fl hfl
        split at hf
        · cases hf
        · rename_i n hne hsz
          simp at hf
          obtain ⟨h1, h2⟩ := hf
          have hn : ¬ n = 0 := hne
          simp [execOp, hs.ev hx, Instr.fieldAt, run_underlying hu, hfl, Instr.sureAddr, fieldPlace, run_sz hsz, hn, add_at, h1]
        · cases hf
      · cases hf
    · cases hf)
theorem r_fieldAddr {f o : Nat} {ft : TypeId} (hf : fieldB c.P t f = some (o, ft)) (hg : gdB ops E g = some true) (hd : Nat.blt d c.n = true) (hx : ev E x = some (.pointer (some ⟨b, off, none⟩)))
    (k : K c (wpList c.P ops Q rest) ((d, .pointer (some ⟨b, off + o, none⟩)) :: E) H) : K c (wpList c.P ops Q (⟨some d, .fieldAddr t x f, ty, pos, af, g⟩ :: rest)) E H :=
  op_pure hg hd (fun a w hs => by
    unfold fieldB at hf
    split at hf
    · rename_i fs hu
      split at hf
      · rename_i fl hfl
        split at hf
        · cases hf
        · rename_i n hne hsz
          simp at hf
          obtain ⟨h1, h2⟩ := hf
          have hn : ¬ n = 0 := hne
          simp [execOp, hs.ev hx, Instr.fieldAt, run_underlying hu, hfl, Instr.sureAddr, fieldPlace, run_sz hsz, hn, add_at, h1]
        · cases hf
      · cases hf
    · cases hf) k

theorem p_field1 {f o : Nat} {ft : TypeId} {vs : List Value} (hf : fieldB c.P t f = some (o, ft)) (ha : aggB c.P ft = some false) (hx : ev E x = some (.agg vs.toArray)) (hv : vs[o]? = some v) : PR c E H ⟨some d, .field t x f, ty, pos, af, g⟩ (v) :=
  (fun a w hs => by
    unfold fieldB at hf
    split at hf
    · rename_i fs hu
      split at hf
      · rename_i fl hfl
        split at hf
        · cases hf
        · simp at hf
          obtain ⟨h1, h2⟩ := hf
          subst h2
          simp [execOp, hs.ev hx, Instr.field, run_underlying hu, hfl, asAgg, part, run_agg ha, h1, hv]
        · cases hf
      · cases hf
    · cases hf)
theorem r_field1 {f o : Nat} {ft : TypeId} {vs : List Value} (hf : fieldB c.P t f = some (o, ft)) (ha : aggB c.P ft = some false) (hg : gdB ops E g = some true) (hd : Nat.blt d c.n = true) (hx : ev E x = some (.agg vs.toArray)) (hv : vs[o]? = some v)
    (k : K c (wpList c.P ops Q rest) ((d, v) :: E) H) : K c (wpList c.P ops Q (⟨some d, .field t x f, ty, pos, af, g⟩ :: rest)) E H :=
  op_pure hg hd (fun a w hs => by
    unfold fieldB at hf
    split at hf
    · rename_i fs hu
      split at hf
      · rename_i fl hfl
        split at hf
        · cases hf
        · simp at hf
          obtain ⟨h1, h2⟩ := hf
          subst h2
          simp [execOp, hs.ev hx, Instr.field, run_underlying hu, hfl, asAgg, part, run_agg ha, h1, hv]
        · cases hf
      · cases hf
    · cases hf) k

theorem p_fieldA {f o n : Nat} {ft : TypeId} {vs us : List Value} (hf : fieldB c.P t f = some (o, ft)) (ha : aggB c.P ft = some true) (hz : szB c.P ft = some n) (hx : ev E x = some (.agg vs.toArray)) (hv : (vs.drop o).take n = us) : PR c E H ⟨some d, .field t x f, ty, pos, af, g⟩ (.agg us.toArray) :=
  (fun a w hs => by
    unfold fieldB at hf
    split at hf
    · rename_i fs hu
      split at hf
      · rename_i fl hfl
        split at hf
        · cases hf
        · simp at hf
          obtain ⟨h1, h2⟩ := hf
          subst h2
          simp [execOp, hs.ev hx, Instr.field, run_underlying hu, hfl, asAgg, part, run_agg ha, run_sz hz, h1, ← hv, List.take_drop, Nat.add_comm]
        · cases hf
      · cases hf
    · cases hf)
theorem r_fieldA {f o n : Nat} {ft : TypeId} {vs us : List Value} (hf : fieldB c.P t f = some (o, ft)) (ha : aggB c.P ft = some true) (hz : szB c.P ft = some n) (hg : gdB ops E g = some true) (hd : Nat.blt d c.n = true) (hx : ev E x = some (.agg vs.toArray)) (hv : (vs.drop o).take n = us)
    (k : K c (wpList c.P ops Q rest) ((d, .agg us.toArray) :: E) H) : K c (wpList c.P ops Q (⟨some d, .field t x f, ty, pos, af, g⟩ :: rest)) E H :=
  op_pure hg hd (fun a w hs => by
    unfold fieldB at hf
    split at hf
    · rename_i fs hu
      split at hf
      · rename_i fl hfl
        split at hf
        · cases hf
        · simp at hf
          obtain ⟨h1, h2⟩ := hf
          subst h2
          simp [execOp, hs.ev hx, Instr.field, run_underlying hu, hfl, asAgg, part, run_agg ha, run_sz hz, h1, ← hv, List.take_drop, Nat.add_comm]
        · cases hf
      · cases hf
    · cases hf) k

theorem p_indexA {m i sz : Nat} {e : TypeId} {ik : IntKind} (ha : arrB c.P t = some (m, e)) (hz : szB c.P e = some sz) (hx : ev E x = some (.pointer (some ⟨b, off, none⟩))) (hy : ev E y = some (.int ik (i : Int))) (hi : i < m) : PR c E H ⟨some d, .indexAddr t x y, ty, pos, af, g⟩ (.pointer (some ⟨b, off + i * sz, none⟩)) :=
  (fun a w hs => by
    unfold arrB at ha
    split at ha
    · rename_i m' e' hu
      simp at ha
      obtain ⟨rfl, rfl⟩ := ha
      simp [execOp, hs.ev hx, hs.ev hy, Instr.indexAt, asIntOf, run_underlying hu, Instr.sureAddr, hi, run_sz hz, add_at]
    · cases ha)
theorem r_indexA {m i sz : Nat} {e : TypeId} {ik : IntKind} (ha : arrB c.P t = some (m, e)) (hz : szB c.P e = some sz) (hg : gdB ops E g = some true) (hd : Nat.blt d c.n = true) (hx : ev E x = some (.pointer (some ⟨b, off, none⟩))) (hy : ev E y = some (.int ik (i : Int))) (hi : i < m)
    (k : K c (wpList c.P ops Q rest) ((d, .pointer (some ⟨b, off + i * sz, none⟩)) :: E) H) : K c (wpList c.P ops Q (⟨some d, .indexAddr t x y, ty, pos, af, g⟩ :: rest)) E H :=
  op_pure hg hd (fun a w hs => by
    unfold arrB at ha
    split at ha
    · rename_i m' e' hu
      simp at ha
      obtain ⟨rfl, rfl⟩ := ha
      simp [execOp, hs.ev hx, hs.ev hy, Instr.indexAt, asIntOf, run_underlying hu, Instr.sureAddr, hi, run_sz hz, add_at]
    · cases ha) k

theorem p_indexS {i len cap sz : Nat} {e : TypeId} {ik : IntKind} (ha : sliceB c.P t = some e) (hz : szB c.P e = some sz) (hx : ev E x = some (.slice (some ⟨b, off, none⟩) len cap)) (hy : ev E y = some (.int ik (i : Int))) (hi : i < len) : PR c E H ⟨some d, .indexAddr t x y, ty, pos, af, g⟩ (.pointer (some ⟨b, off + i * sz, none⟩)) :=
  (fun a w hs => by
    unfold sliceB at ha
    split at ha
    · rename_i e' hu
      simp at ha
      subst ha
      simp [execOp, hs.ev hx, hs.ev hy, Instr.indexAt, asIntOf, run_underlying hu, hi, run_sz hz, add_at]
    · cases ha)
theorem r_indexS {i len cap sz : Nat} {e : TypeId} {ik : IntKind} (ha : sliceB c.P t = some e) (hz : szB c.P e = some sz) (hg : gdB ops E g = some true) (hd : Nat.blt d c.n = true) (hx : ev E x = some (.slice (some ⟨b, off, none⟩) len cap)) (hy : ev E y = some (.int ik (i : Int))) (hi : i < len)
    (k : K c (wpList c.P ops Q rest) ((d, .pointer (some ⟨b, off + i * sz, none⟩)) :: E) H) : K c (wpList c.P ops Q (⟨some d, .indexAddr t x y, ty, pos, af, g⟩ :: rest)) E H :=
  op_pure hg hd (fun a w hs => by
    unfold sliceB at ha
    split at ha
    · rename_i e' hu
      simp at ha
      subst ha
      simp [execOp, hs.ev hx, hs.ev hy, Instr.indexAt, asIntOf, run_underlying hu, hi, run_sz hz, add_at]
    · cases ha) k

theorem p_indexStr {s : ByteArray} {i : Nat} {ik : IntKind} {r : UInt8} (hu : c.P.underlying t = some .string) (hx : ev E x = some (.string s)) (hy : ev E y = some (.int ik (i : Int))) (hi : s[i]? = some r) : PR c E H ⟨some d, .index t x y, ty, pos, af, g⟩ (.int .u8 (r.toNat : Int)) :=
  (fun a w hs => by
    simp [execOp, hs.ev hx, hs.ev hy, Instr.index, asIntOf, run_underlying hu, hi])
theorem r_indexStr {s : ByteArray} {i : Nat} {ik : IntKind} {r : UInt8} (hu : c.P.underlying t = some .string) (hg : gdB ops E g = some true) (hd : Nat.blt d c.n = true) (hx : ev E x = some (.string s)) (hy : ev E y = some (.int ik (i : Int))) (hi : s[i]? = some r)
    (k : K c (wpList c.P ops Q rest) ((d, .int .u8 (r.toNat : Int)) :: E) H) : K c (wpList c.P ops Q (⟨some d, .index t x y, ty, pos, af, g⟩ :: rest)) E H :=
  op_pure hg hd (fun a w hs => by
    simp [execOp, hs.ev hx, hs.ev hy, Instr.index, asIntOf, run_underlying hu, hi]) k

theorem p_lenS {a : Option Addr} {len cap : Nat} {e : TypeId} (ha : sliceB c.P t = some e) (hx : ev E x = some (.slice a len cap)) : PR c E H ⟨some d, .call ⟨.builtin .len, #[x], #[t]⟩, ty, pos, af, g⟩ (.int .i64 (len : Int)) :=
  (fun ac w hs => by
    unfold sliceB at ha
    split at ha
    · rename_i e' hu
      simp [execOp, resolve, invoke, builtin, hs.ev hx, Builtin.len_, run_underlying hu, goInt]
    · cases ha)
theorem r_lenS {a : Option Addr} {len cap : Nat} {e : TypeId} (ha : sliceB c.P t = some e) (hg : gdB ops E g = some true) (hd : Nat.blt d c.n = true) (hx : ev E x = some (.slice a len cap))
    (k : K c (wpList c.P ops Q rest) ((d, .int .i64 (len : Int)) :: E) H) : K c (wpList c.P ops Q (⟨some d, .call ⟨.builtin .len, #[x], #[t]⟩, ty, pos, af, g⟩ :: rest)) E H :=
  op_pure hg hd (fun ac w hs => by
    unfold sliceB at ha
    split at ha
    · rename_i e' hu
      simp [execOp, resolve, invoke, builtin, hs.ev hx, Builtin.len_, run_underlying hu, goInt]
    · cases ha) k
theorem p_lenStr {s : ByteArray} (hu : c.P.underlying t = some .string) (hx : ev E x = some (.string s)) : PR c E H ⟨some d, .call ⟨.builtin .len, #[x], #[t]⟩, ty, pos, af, g⟩ (.int .i64 (s.size : Int)) :=
  (fun ac w hs => by
    simp [execOp, resolve, invoke, builtin, hs.ev hx, Builtin.len_, run_underlying hu, goInt])
theorem r_lenStr {s : ByteArray} (hu : c.P.underlying t = some .string) (hg : gdB ops E g = some true) (hd : Nat.blt d c.n = true) (hx : ev E x = some (.string s))
    (k : K c (wpList c.P ops Q rest) ((d, .int .i64 (s.size : Int)) :: E) H) : K c (wpList c.P ops Q (⟨some d, .call ⟨.builtin .len, #[x], #[t]⟩, ty, pos, af, g⟩ :: rest)) E H :=
  op_pure hg hd (fun ac w hs => by
    simp [execOp, resolve, invoke, builtin, hs.ev hx, Builtin.len_, run_underlying hu, goInt]) k
theorem p_lenA {m : Nat} {e : TypeId} (ha : arrB c.P t = some (m, e)) (hx : ev E x = some v) : PR c E H ⟨some d, .call ⟨.builtin .len, #[x], #[t]⟩, ty, pos, af, g⟩ (.int .i64 (m : Int)) :=
  (fun ac w hs => by
    unfold arrB at ha
    split at ha
    · rename_i m' e' hu
      simp at ha
      obtain ⟨rfl, rfl⟩ := ha
      simp [execOp, resolve, invoke, builtin, hs.ev hx, Builtin.len_, run_underlying hu, goInt]
    · cases ha)
theorem r_lenA {m : Nat} {e : TypeId} (ha : arrB c.P t = some (m, e)) (hg : gdB ops E g = some true) (hd : Nat.blt d c.n = true) (hx : ev E x = some v)
    (k : K c (wpList c.P ops Q rest) ((d, .int .i64 (m : Int)) :: E) H) : K c (wpList c.P ops Q (⟨some d, .call ⟨.builtin .len, #[x], #[t]⟩, ty, pos, af, g⟩ :: rest)) E H :=
  op_pure hg hd (fun ac w hs => by
    unfold arrB at ha
    split at ha
    · rename_i m' e' hu
      simp at ha
      obtain ⟨rfl, rfl⟩ := ha
      simp [execOp, resolve, invoke, builtin, hs.ev hx, Builtin.len_, run_underlying hu, goInt]
    · cases ha) k
end
end Go.Sl
