/- A small logic for walking Go functions: what is known of the slots (a list of pairs), of the blocks that the call owns (a list of pairs), and of the blocks that it reads; each rule says what one operation does to these. -/
import Derived.WalkKit
import Derived.WalkLawsBesides
namespace Go.Sl

abbrev Env := List (Nat × Value)
abbrev Hp := List (Nat × Obj)

def look : Env → Nat → Option Value
  | [], _ => none
  | (k, v) :: E, j => bif Nat.beq k j then some v else look E j

def ev (E : Env) : Operand → Option Value
  | .tmp t => look E t
  | .const v => some v
  | .global g => some (.pointer (some ⟨g, 0, none⟩))
  | .func f => some (.func (.func f) #[] #[])

def evs (E : Env) : List Operand → Option (List Value)
  | [] => some []
  | x :: xs => (ev E x).bind fun v => (evs E xs).map (v :: ·)

/-- Nothing that was there has turned, but for the blocks of a list. -/
structure Keep (M : List Nat) (w w' : World) : Prop where
  os : w'.os = w.os
  tape : w'.tape = w.tape
  output : w'.output = w.output
  size : w.heap.size ≤ w'.heap.size
  block : ∀ k, k < w.heap.size → k ∉ M → w'.heap[k]? = w.heap[k]?

structure Ctx where
  P : Program
  w0 : World
  M : List Nat
  X : Hp
  n : Nat

structure Sat (c : Ctx) (E : Env) (H : Hp) (a : Act) (w : World) : Prop where
  keep : Keep c.M c.w0 w
  rd : ∀ e ∈ c.X, c.w0.heap[e.1]? = some e.2 ∧ e.1 ∉ c.M
  env : ∀ k v, look E k = some v → a.tmps[k]? = some v
  size : a.tmps.size = c.n
  nodef : a.defers = []
  own : ∀ e ∈ H, w.heap[e.1]? = some e.2
  orig : ∀ e ∈ H, c.w0.heap.size ≤ e.1 ∨ e.1 ∈ c.M
  nodup : (H.map Prod.fst).Nodup

def K (c : Ctx) (R : Act → World → Prop) (E : Env) (H : Hp) : Prop := ∀ a w, Sat c E H a w → R a w

theorem getElem?_lt {α : Type} {xs : Array α} {i : Nat} {v : α} (h : xs[i]? = some v) : i < xs.size := by
  rcases Nat.lt_or_ge i xs.size with h1 | h1
  · exact h1
  · rw [Array.getElem?_eq_none h1] at h; cases h

theorem Keep.refl (M : List Nat) (w : World) : Keep M w w := ⟨rfl, rfl, rfl, Nat.le_refl _, fun _ _ _ => rfl⟩
theorem Keep.trans {M : List Nat} {a b c : World} (h : Keep M a b) (k : Keep M b c) : Keep M a c :=
  ⟨k.os.trans h.os, k.tape.trans h.tape, k.output.trans h.output, Nat.le_trans h.size k.size, fun i hi hm => (k.block i (Nat.lt_of_lt_of_le hi h.size) hm).trans (h.block i hi hm)⟩
theorem Keep.below {w w' : World} (h : Keep [] w w') : RowKit.Below w.heap.size w w' :=
  ⟨h.os, h.tape, h.output, h.size, fun k hk => h.block k hk (by simp)⟩
theorem Keep.of_below {w w' : World} (h : RowKit.Below w.heap.size w w') : Keep [] w w' :=
  ⟨h.os, h.tape, h.output, h.size, fun k hk _ => h.block k hk⟩
theorem Keep.drew {M : List Nat} {a w : World} (h : Keep M a w) (d : Nat) : Keep M a { w with drawn := d } := ⟨h.os, h.tape, h.output, h.size, h.block⟩

section facts
variable {c : Ctx} {E : Env} {H : Hp} {a : Act} {w : World}

theorem Sat.read (h : Sat c E H a w) {e : Nat × Obj} (he : e ∈ c.X) : w.heap[e.1]? = some e.2 := by
  obtain ⟨h1, h2⟩ := h.rd e he
  rw [h.keep.block e.1 (getElem?_lt h1) h2, h1]

theorem Sat.lt (h : Sat c E H a w) {e : Nat × Obj} (he : e ∈ H) : e.1 < w.heap.size := getElem?_lt (h.own e he)

theorem Sat.look (h : Sat c E H a w) {k : Nat} {v : Value} (hk : Sl.look E k = some v) : a.tmps.getD k undef = v := by
  have := h.env k v hk
  rw [Array.getD_eq_getD_getElem?, this]; rfl

theorem Sat.ev (h : Sat c E H a w) {x : Operand} {v : Value} (hx : Sl.ev E x = some v) : a.eval x = v := by
  cases x with
  | tmp t => exact h.look hx
  | const u => simpa [Sl.ev, Act.eval] using hx
  | global g => simpa [Sl.ev, Act.eval] using hx
  | func f => simpa [Sl.ev, Act.eval] using hx

theorem Sat.evs (h : Sat c E H a w) : ∀ {xs : List Operand} {vs : List Value}, Sl.evs E xs = some vs → xs.map a.eval = vs
  | [], vs, hx => by simpa [Sl.evs] using hx
  | x :: xs, vs, hx => by
    unfold Sl.evs at hx
    cases h1 : Sl.ev E x with
    | none => rw [h1] at hx; simp at hx
    | some v =>
      cases h2 : Sl.evs E xs with
      | none => rw [h1, h2] at hx; simp at hx
      | some us =>
        rw [h1, h2] at hx
        simp at hx
        rw [← hx, List.map_cons, h.ev h1, h.evs h2]

/-- A slot is written. -/
theorem Sat.put (h : Sat c E H a w) {d : Nat} (hd : Nat.blt d c.n = true) (v : Value) : Sat c ((d, v) :: E) H (a.put (some d) v) w := by
  have hd' : d < c.n := by simpa [Nat.blt_eq] using hd
  refine ⟨h.keep, h.rd, ?_, ?_, h.nodef, h.own, h.orig, h.nodup⟩
  · intro k u hk
    simp only [Sl.look] at hk
    by_cases e : d = k
    · subst e
      have h1 : Nat.beq d d = true := Nat.beq_refl d
      rw [h1] at hk
      simp at hk
      subst hk
      simp [Act.put, h.size, hd']
    · have h1 : Nat.beq d k = false := by
        cases hb : Nat.beq d k with
        | false => rfl
        | true => exact absurd (Nat.eq_of_beq_eq_true hb) e
      rw [h1] at hk
      simp at hk
      have := h.env k u hk
      simp [Act.put, e, this]
  · simp [Act.put, h.size]

theorem Sat.put_none (h : Sat c E H a w) (v : Value) : Sat c E H (a.put none v) w := h

/-- Other worlds in which the same is known. -/
theorem Sat.world (h : Sat c E H a w) {w' : World} (hk : Keep [] w w') : Sat c E H a w' := by
  refine ⟨h.keep.trans ⟨hk.os, hk.tape, hk.output, hk.size, fun k h1 _ => hk.block k h1 (by simp)⟩, h.rd, h.env, h.size, h.nodef, ?_, h.orig, h.nodup⟩
  intro e he
  rw [hk.block e.1 (h.lt he) (by simp)]
  exact h.own e he

/-- A new block. -/
theorem Sat.alloc (h : Sat c E H a w) (o : Obj) : Sat c E ((w.heap.size, o) :: H) a { w with heap := w.heap.push o } := by
  have hk : Keep [] w { w with heap := w.heap.push o } := ⟨rfl, rfl, rfl, by simp, fun k h1 _ => by
    show (w.heap.push o)[k]? = _
    rw [Array.getElem?_push, if_neg (by omega)]⟩
  have h' := h.world hk
  refine ⟨h'.keep, h.rd, h.env, h.size, h.nodef, ?_, ?_, ?_⟩
  · intro e he
    rcases List.mem_cons.1 he with rfl | he
    · show (w.heap.push o)[w.heap.size]? = some o
      simp
    · exact h'.own e he
  · intro e he
    rcases List.mem_cons.1 he with rfl | he
    · exact .inl h.keep.size
    · exact h.orig e he
  · rw [List.map_cons, List.nodup_cons]
    refine ⟨fun hm => ?_, h.nodup⟩
    obtain ⟨e, he, h1⟩ := List.mem_map.1 hm
    have := h.lt he
    simp at h1
    omega
end facts

/-- Membership, by place. -/
inductive Mem : (Nat × Obj) → Hp → Prop
  | z {e l} : Mem e (e :: l)
  | s {e x l} : Mem e l → Mem e (x :: l)
theorem Mem.mem {e : Nat × Obj} {l : Hp} (h : Mem e l) : e ∈ l := by
  induction h with
  | z => exact List.mem_cons_self
  | s _ ih => exact List.mem_cons_of_mem _ ih

inductive In (e : Nat × Obj) (X H : Hp) : Prop
  | h (m : Mem e H) : In e X H
  | x (m : Mem e X) : In e X H

theorem Sat.at {c : Ctx} {E : Env} {H : Hp} {a : Act} {w : World} (h : Sat c E H a w) {e : Nat × Obj} (hi : In e c.X H) : w.heap[e.1]? = some e.2 := by
  cases hi with
  | h m => exact h.own e m.mem
  | x m => exact h.read m.mem

/-- A block's content replaced. -/
inductive Up (b : Nat) (o o' : Obj) : Hp → Hp → Prop
  | z {l} : Up b o o' ((b, o) :: l) ((b, o') :: l)
  | s {x l l'} : Up b o o' l l' → Up b o o' (x :: l) (x :: l')

theorem Up.keys {b : Nat} {o o' : Obj} {H H' : Hp} (h : Up b o o' H H') : H'.map Prod.fst = H.map Prod.fst := by
  induction h with
  | z => rfl
  | s _ ih => simp [ih]
theorem Up.mem {b : Nat} {o o' : Obj} {H H' : Hp} (h : Up b o o' H H') : (b, o) ∈ H := by
  induction h with
  | z => exact List.mem_cons_self
  | s _ ih => exact List.mem_cons_of_mem _ ih
theorem Up.of {b : Nat} {o o' : Obj} {H H' : Hp} (h : Up b o o' H H') (nd : (H.map Prod.fst).Nodup) : ∀ e ∈ H', e = (b, o') ∨ (e ∈ H ∧ e.1 ≠ b) := by
  induction h with
  | @z l =>
    intro e he
    rw [List.map_cons, List.nodup_cons] at nd
    rcases List.mem_cons.1 he with rfl | he
    · exact .inl rfl
    · exact .inr ⟨List.mem_cons_of_mem _ he, fun h1 => nd.1 (List.mem_map.2 ⟨e, he, h1⟩)⟩
  | @s x l l' hu ih =>
    intro e he
    rw [List.map_cons, List.nodup_cons] at nd
    rcases List.mem_cons.1 he with rfl | he
    · exact .inr ⟨List.mem_cons_self, fun h1 => nd.1 (List.mem_map.2 ⟨_, hu.mem, h1.symm⟩)⟩
    · rcases ih nd.2 e he with h1 | ⟨h1, h2⟩
      · exact .inl h1
      · exact .inr ⟨List.mem_cons_of_mem _ h1, h2⟩

/-- One entry taken out. -/
inductive Rem (e : Nat × Obj) : Hp → Hp → Prop
  | z {l} : Rem e (e :: l) l
  | s {x l l'} : Rem e l l' → Rem e (x :: l) (x :: l')
inductive Rems : Hp → Hp → Hp → Prop
  | z {H} : Rems [] H H
  | s {e Y H H' H''} : Rem e H H' → Rems Y H' H'' → Rems (e :: Y) H H''

theorem Rem.perm {e : Nat × Obj} {H H' : Hp} (h : Rem e H H') : List.Perm H (e :: H') := by
  induction h with
  | z => exact .refl _
  | s _ ih => exact (ih.cons _).trans (.swap _ _ _)
theorem Rems.perm {Y H H' : Hp} (h : Rems Y H H') : List.Perm H (Y ++ H') := by
  induction h with
  | z => exact .refl _
  | s r _ ih => exact r.perm.trans (ih.cons _)

theorem Sat.perm {c : Ctx} {E : Env} {H H' : Hp} {a : Act} {w : World} (h : Sat c E H a w) (p : List.Perm H H') : Sat c E H' a w :=
  ⟨h.keep, h.rd, h.env, h.size, h.nodef, fun e he => h.own e (p.mem_iff.2 he), fun e he => h.orig e (p.mem_iff.2 he), (p.map Prod.fst).nodup_iff.1 h.nodup⟩

theorem Sat.sub {c : Ctx} {E : Env} {H H' : Hp} {a : Act} {w : World} (h : Sat c E (H ++ H') a w) : Sat c E H a w :=
  ⟨h.keep, h.rd, h.env, h.size, h.nodef, fun e he => h.own e (List.mem_append_left _ he), fun e he => h.orig e (List.mem_append_left _ he), by
    have := h.nodup
    rw [List.map_append] at this
    exact (List.nodup_append.1 this).1⟩

/-- What is known of the slots, less of it. -/
def Cov (E : Env) : Env → Prop
  | [] => True
  | (k, v) :: E' => look E k = some v ∧ Cov E E'
theorem Cov.look {E : Env} : ∀ {E' : Env}, Cov E E' → ∀ k v, Sl.look E' k = some v → Sl.look E k = some v
  | [], _, k, v, h => by simp [Sl.look] at h
  | (j, u) :: E', hc, k, v, h => by
    simp only [Sl.look] at h
    cases hb : Nat.beq j k with
    | true =>
      rw [hb] at h
      have := Nat.eq_of_beq_eq_true hb
      subst this
      simp at h; subst h
      exact hc.1
    | false =>
      rw [hb] at h
      exact Cov.look hc.2 k v (by simpa using h)
theorem Sat.cov {c : Ctx} {E E' : Env} {H : Hp} {a : Act} {w : World} (h : Sat c E H a w) (hc : Cov E E') : Sat c E' H a w :=
  ⟨h.keep, h.rd, fun k v hk => h.env k v (hc.look k v hk), h.size, h.nodef, h.own, h.orig, h.nodup⟩

section ctl
variable {c : Ctx} {E : Env} {H : Hp} {Q : Exit → Act → World → Prop} {P : Program}

theorem K_weak {R : Act → World → Prop} {E' : Env} {H' Hr : Hp} (hc : Cov E E') (hr : Rems H' H Hr) (h : K c R E' H') : K c R E H :=
  fun a w hs => h a w ((hs.cov hc).perm hr.perm).sub

theorem K_env {R : Act → World → Prop} {E' : Env} (hc : Cov E E') (h : K c R E' H) : K c R E H := fun a w hs => h a w (hs.cov hc)

theorem K_seq {x y : Code} (h : K c (x.wp P (Exit.then (y.wp P Q) Q)) E H) : K c ((Code.seq x y).wp P Q) E H := fun a w hs => wp_seq (h a w hs)
theorem K_skip (h : K c (Q .normal) E H) : K c (Code.skip.wp P Q) E H := fun a w hs => wp_skip (h a w hs)
theorem K_block {id : Nat} {x : Code} (h : K c (x.wp P (Exit.inBlock id Q)) E H) : K c ((Code.block id x).wp P Q) E H := fun a w hs => wp_block (h a w hs)
theorem K_exit {id : Nat} (h : K c (Q (.exit id)) E H) : K c ((Code.exit id).wp P Q) E H := fun a w hs => wp_exit (h a w hs)
theorem K_ret (h : K c (Q .ret) E H) : K c (Code.ret.wp P Q) E H := fun a w hs => wp_ret (h a w hs)
theorem K_cond_t {x : Operand} {y z : Code} (hx : ev E x = some (.bool true)) (h : K c (y.wp P Q) E H) : K c ((Code.cond x y z).wp P Q) E H :=
  fun a w hs => wp_cond_true (hs.ev hx) (h a w hs)
theorem K_cond_f {x : Operand} {y z : Code} (hx : ev E x = some (.bool false)) (h : K c (z.wp P Q) E H) : K c ((Code.cond x y z).wp P Q) E H :=
  fun a w hs => wp_cond_false (hs.ev hx) (h a w hs)

/- how an exit passes through what stands around it -/
variable {N : Act → World → Prop} {id j : Nat}
theorem K_tn (h : K c N E H) : K c (Exit.then N Q .normal) E H := h
theorem K_tr (h : K c (Q .ret) E H) : K c (Exit.then N Q .ret) E H := h
theorem K_te (h : K c (Q (.exit id)) E H) : K c (Exit.then N Q (.exit id)) E H := h
theorem K_bn (h : K c (Q .normal) E H) : K c (Exit.inBlock id Q .normal) E H := h
theorem K_br (h : K c (Q .ret) E H) : K c (Exit.inBlock id Q .ret) E H := h
theorem K_be (h : K c (Q .normal) E H) : K c (Exit.inBlock id Q (.exit id)) E H := fun a w hs => by
  simp only [Exit.inBlock, if_true]; exact h a w hs
theorem K_bm (hne : (j == id) = false) (h : K c (Q (.exit j)) E H) : K c (Exit.inBlock id Q (.exit j)) E H := fun a w hs => by
  have : ¬ j = id := by simpa using hne
  simp only [Exit.inBlock, if_neg this]; exact h a w hs

theorem K_loop {ι : Type} (pre : ι → Prop) (Ei : ι → Env) (Hi : ι → Hp) (μ : ι → Nat) (i0 : ι) {x : Code} {Hr : Hp} (hp : pre i0) (hc : Cov E (Ei i0)) (hr : Rems (Hi i0) H Hr)
    (round : ∀ i, pre i → K c (x.wp P (Exit.then (fun a w => ∃ j, pre j ∧ μ j < μ i ∧ Sat c (Ei j) (Hi j) a w) Q)) (Ei i) (Hi i)) :
    K c ((Code.loop x).wp P Q) E H := by
  intro a w hs b k cs
  have key : ∀ m i, μ i = m → pre i → ∀ a w, Sat c (Ei i) (Hi i) a w →
      ∃ e a' w', Q e a' w' ∧ Arrives P (lone (b.at a (.code x :: .inLoop x :: k)) cs w) b k cs e a' w' := by
    intro m
    induction m using Nat.strongRecOn with
    | _ m ih =>
      intro i hm hpi a w hsi
      obtain ⟨e, a1, w1, hq, harr⟩ := round i hpi a w hsi b (.inLoop x :: k) cs
      cases e with
      | normal =>
        obtain ⟨j, hpj, hlt, hsj⟩ := hq
        obtain ⟨e2, a2, w2, hq2, harr2⟩ := ih (μ j) (hm ▸ hlt) j rfl hpj a1 w1 hsj
        exact ⟨e2, a2, w2, hq2, .of_steps (Steps.trans harr (.one step_inLoop)) harr2⟩
      | exit id => exact ⟨_, a1, w1, hq, .pass (x := .inLoop x) rfl (fun _ _ => .inl (by simp)) harr⟩
      | goto l => exact ⟨_, a1, w1, hq, .pass (x := .inLoop x) rfl (fun _ _ => .inl (by simp)) harr⟩
      | ret => exact ⟨_, a1, w1, hq, .pass (x := .inLoop x) rfl (fun _ _ => .inl (by simp)) harr⟩
      | panic ch => exact ⟨_, a1, w1, hq, .pass (x := .inLoop x) rfl (fun _ _ => .inl (by simp)) harr⟩
      | outgrown => exact ⟨_, a1, w1, hq, .pass (x := .inLoop x) rfl (fun _ _ => .inl (by simp)) harr⟩
  obtain ⟨e, a', w', hq, harr⟩ := key _ i0 rfl hp a w ((hs.cov hc).perm hr.perm).sub
  exact ⟨e, a', w', hq, .of_steps (.one step_loop) harr⟩

/-- a round's end -/
theorem K_again {ι : Type} {pre : ι → Prop} {Ei : ι → Env} {Hi : ι → Hp} {μ : ι → Nat} {i : ι} (j : ι) {Hr : Hp} (hp : pre j) (hm : μ j < μ i) (hc : Cov E (Ei j)) (hr : Rems (Hi j) H Hr) :
    K c (fun a w => ∃ j, pre j ∧ μ j < μ i ∧ Sat c (Ei j) (Hi j) a w) E H :=
  fun _ _ hs => ⟨j, hp, hm, ((hs.cov hc).perm hr.perm).sub⟩

/-- ways meet: what is known behind the first part, in one form -/
theorem K_cut {ι : Type} (pre : ι → Prop) (Ei : ι → Env) (Hi : ι → Hp) {x y : Code}
    (h : K c (x.wp P (Exit.then (fun a w => ∃ j, pre j ∧ Sat c (Ei j) (Hi j) a w) Q)) E H) (h2 : ∀ i, pre i → K c (y.wp P Q) (Ei i) (Hi i)) :
    K c ((Code.seq x y).wp P Q) E H := fun a w hs =>
  wp_seq (wp_mono (h a w hs) fun e a w q => by
    cases e <;> first | exact q | (obtain ⟨j, hp, hs⟩ := q; exact h2 j hp a w hs))
theorem K_meet {ι : Type} {pre : ι → Prop} {Ei : ι → Env} {Hi : ι → Hp} (j : ι) {Hr : Hp} (hp : pre j) (hc : Cov E (Ei j)) (hr : Rems (Hi j) H Hr) :
    K c (fun a w => ∃ j, pre j ∧ Sat c (Ei j) (Hi j) a w) E H :=
  fun _ _ hs => ⟨j, hp, ((hs.cov hc).perm hr.perm).sub⟩

/-- what is known of a truth value: the two ways -/
theorem K_split {R : Act → World → Prop} {d : Nat} {t : Bool} (hd : look E d = some (.bool t)) (h1 : t = true → K c R ((d, .bool true) :: E) H) (h2 : t = false → K c R ((d, .bool false) :: E) H) : K c R E H := by
  have key : K c R ((d, .bool t) :: E) H := by
    cases t with
    | true => exact h1 rfl
    | false => exact h2 rfl
  intro a w hs
  refine key a w ⟨hs.keep, hs.rd, fun k v hk => ?_, hs.size, hs.nodef, hs.own, hs.orig, hs.nodup⟩
  simp only [look] at hk
  cases hb : Nat.beq d k with
  | true =>
    have := Nat.eq_of_beq_eq_true hb
    subst this
    rw [hb] at hk; simp at hk; subst hk
    exact hs.env d _ hd
  | false => rw [hb] at hk; exact hs.env k v (by simpa using hk)
end ctl
end Go.Sl
