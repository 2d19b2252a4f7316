/- Contracts of functions in the small logic, how a contract is used at a call, how one is proved from a body. -/
import Derived.Test.YtlkpkenbfaiinaaSlC
namespace Go.Sl

/-- What a function does: called with these arguments in a world in which the blocks of X read so, and those of Hc too (these it may turn): it returns a value v, and blocks H' of which 'post' speaks; all else that was there is as it was. -/
def Spec (P : Program) (f : FuncId) (args : List Value) (X Hc : Hp) (post : Value → Hp → Prop) : Prop :=
  ∀ w : World, (∀ e ∈ X, w.heap[e.1]? = some e.2 ∧ e.1 ∉ Hc.map Prod.fst) → (∀ e ∈ Hc, w.heap[e.1]? = some e.2) → (Hc.map Prod.fst).Nodup →
    Calls P f args.toArray w fun e w' => ∃ v H', post v H' ∧ e = .returned v ∧ Keep (Hc.map Prod.fst) w w' ∧
      (∀ e ∈ H', w'.heap[e.1]? = some e.2) ∧ (∀ e ∈ H', w.heap.size ≤ e.1 ∨ e.1 ∈ Hc.map Prod.fst) ∧ (H'.map Prod.fst).Nodup

/-- A function that reads, and returns one plain value. -/
def SpecV (P : Program) (f : FuncId) (args : List Value) (X : Hp) (v : Value) : Prop := Spec P f args X [] fun u H' => u = v ∧ H' = []

def callB (P : Program) (f : FuncId) : Bool :=
  match P.funcs[f]? with
  | some fn => fn.body.isSome && !(fn.name == "runtime.NumGoroutine")
  | none => false

theorem run_callFunc {P : Program} {f : FuncId} {w : World} {args : Array Value} (h : callB P f = true) : (callFunc f args).run P w = .ok (.enter f args) w := by
  unfold callB at h
  split at h
  · rename_i fn hf
    simp at h
    obtain ⟨h1, h2⟩ := h
    have h3 : ¬ fn.body = none := by intro hb; rw [hb] at h1; cases h1
    simp [callFunc, program, Sem.run, hf, h2, h3]
  · cases h

/-- all of a contract's reads are known -/
inductive Ins (X H : Hp) : Hp → Prop
  | z : Ins X H []
  | s {e Y} : In e X H → Ins X H Y → Ins X H (e :: Y)
theorem Ins.all {X H Y : Hp} (h : Ins X H Y) : ∀ e ∈ Y, In e X H := by
  induction h with
  | z => intro e he; cases he
  | s i _ ih =>
    intro e he
    rcases List.mem_cons.1 he with rfl | he
    · exact i
    · exact ih e he

section
variable {c : Ctx} {E : Env} {H : Hp} {Q : Exit → Act → World → Prop} {ops : Array Oper} {rest : List Oper} {d : Nat} {ty : TypeId} {pos : String} {af : Array Edge} {g : Option (Nat × Bool)} {x : Operand}

theorem Sat.after {a : Act} {w w' : World} {Hc Hr H' : Hp} (hs : Sat c E H a w) (hr : Rems Hc H Hr) (hk : Keep (Hc.map Prod.fst) w w')
    (ho : ∀ e ∈ H', w'.heap[e.1]? = some e.2) (hf : ∀ e ∈ H', w.heap.size ≤ e.1 ∨ e.1 ∈ Hc.map Prod.fst) (hn : (H'.map Prod.fst).Nodup) : Sat c E (H' ++ Hr) a w' := by
  have hp := hs.perm hr.perm
  have hmem : ∀ k, k ∈ Hc.map Prod.fst → c.w0.heap.size ≤ k ∨ k ∈ c.M := by
    intro k hk
    obtain ⟨e, he, rfl⟩ := List.mem_map.1 hk
    exact hp.orig e (List.mem_append_left _ he)
  have hnd := hp.nodup
  rw [List.map_append] at hnd
  obtain ⟨n1, n2, n3⟩ := List.nodup_append.1 hnd
  refine ⟨⟨hk.os.trans hs.keep.os, hk.tape.trans hs.keep.tape, hk.output.trans hs.keep.output, Nat.le_trans hs.keep.size hk.size, fun k hk0 hkM => ?_⟩, hs.rd, hs.env, hs.size, hs.nodef, ?_, ?_, ?_⟩
  · have h1 : k ∉ Hc.map Prod.fst := fun h => by
      rcases hmem k h with h2 | h2
      · omega
      · exact hkM h2
    rw [hk.block k (Nat.lt_of_lt_of_le hk0 hs.keep.size) h1]
    exact hs.keep.block k hk0 hkM
  · intro e he
    rcases List.mem_append.1 he with he | he
    · exact ho e he
    · have hin := hp.own e (List.mem_append_right _ he)
      rw [hk.block e.1 (getElem?_lt hin) (fun h => n3 _ h _ (List.mem_map.2 ⟨e, he, rfl⟩) rfl)]
      exact hin
  · intro e he
    rcases List.mem_append.1 he with he | he
    · rcases hf e he with h1 | h1
      · exact .inl (Nat.le_trans hs.keep.size h1)
      · exact hmem _ h1
    · exact hp.orig e (List.mem_append_right _ he)
  · rw [List.map_append, List.nodup_append]
    refine ⟨hn, n2, ?_⟩
    intro k hk1 k2 hk2 hkk
    subst hkk
    obtain ⟨e, he, rfl⟩ := List.mem_map.1 hk1
    obtain ⟨e2, he2, h12⟩ := List.mem_map.1 hk2
    rcases hf e he with h1 | h1
    · have := getElem?_lt (hp.own e2 (List.mem_append_right _ he2))
      rw [h12] at this; omega
    · exact n3 _ h1 _ (List.mem_map.2 ⟨e2, he2, h12⟩) rfl

theorem spec_at {a : Act} {w : World} {f : FuncId} {args : List Value} {X Hc Hr : Hp} {post : Value → Hp → Prop} (hs : Sat c E H a w) (hsp : Spec c.P f args X Hc post) (hr : Rems Hc H Hr) (hi : Ins c.X Hr X) :
    Calls c.P f args.toArray w fun e w' => ∃ v H', post v H' ∧ e = .returned v ∧ Sat c E (H' ++ Hr) a w' := by
  have hp := hs.perm hr.perm
  have hnd := hp.nodup
  rw [List.map_append] at hnd
  obtain ⟨n1, n2, n3⟩ := List.nodup_append.1 hnd
  refine (hsp w (fun e he => ?_) (fun e he => hp.own e (List.mem_append_left _ he)) n1).mono ?_
  · cases hi.all e he with
    | h m =>
      refine ⟨hp.own e (List.mem_append_right _ m.mem), fun h => n3 _ h _ (List.mem_map.2 ⟨e, m.mem, rfl⟩) rfl⟩
    | x m =>
      refine ⟨hs.read m.mem, fun h => ?_⟩
      obtain ⟨e2, he2, h12⟩ := List.mem_map.1 h
      obtain ⟨r1, r2⟩ := hs.rd e m.mem
      rcases hp.orig e2 (List.mem_append_left _ he2) with h1 | h1
      · have := getElem?_lt r1; rw [h12] at h1; omega
      · rw [h12] at h1; exact r2 h1
  · rintro e w' ⟨v, H', hpost, rfl, hk, ho, hf, hn⟩
    exact ⟨v, H', hpost, rfl, hs.after hr hk ho hf hn⟩

theorem call_run {f : FuncId} {fo : Operand} {xs : List Operand} {ats : Array TypeId} {first cap : Array Value} {vs : List Value} {dst : Option Tmp} {a : Act} {w : World} (hs : Sat c E H a w) (hfo : ev E fo = some (.func (.func f) first cap)) (hxs : evs E xs = some vs) (hcb : callB c.P f = true) :
    (execOp a.eval ⟨dst, .call ⟨.value fo, xs.toArray, ats⟩, ty, pos, af, g⟩).run c.P w = .ok (.enter f (first ++ vs.toArray ++ cap)) w := by
  have h1 := hs.evs hxs
  simp only [execOp, resolve, hs.ev hfo, List.map_toArray, h1, Deferred.ofValue]
  simp [invoke, run_callFunc hcb]

/-- a call that may turn blocks of ours and may hand back new ones -/
theorem r_callM {f : FuncId} {fo : Operand} {xs : List Operand} {ats : Array TypeId} {first cap : List Value} {vs args : List Value} {X Hc Hr : Hp} {post : Value → Hp → Prop}
    (hcb : callB c.P f = true) (hg : gdB ops E g = some true) (hd : Nat.blt d c.n = true) (hfo : ev E fo = some (.func (.func f) first.toArray cap.toArray)) (hxs : evs E xs = some vs) (hargs : first ++ vs ++ cap = args)
    (hsp : Spec c.P f args X Hc post) (hr : Rems Hc H Hr) (hi : Ins c.X Hr X)
    (k : ∀ v H', post v H' → K c (wpList c.P ops Q rest) ((d, v) :: E) (H' ++ Hr)) : K c (wpList c.P ops Q (⟨some d, .call ⟨.value fo, xs.toArray, ats⟩, ty, pos, af, g⟩ :: rest)) E H :=
  op_step hg fun a w hs => by
    unfold Oper.wp
    rw [call_run hs hfo hxs hcb, Oper.upon_enter]
    have := spec_at hs hsp hr hi
    rw [← hargs] at this
    have e : (first.toArray ++ vs.toArray ++ cap.toArray) = (first ++ vs ++ cap).toArray := by simp
    rw [e]
    refine this.mono ?_
    rintro e w' ⟨v, H', hp, rfl, hs'⟩
    exact k v H' hp _ _ (hs'.put hd v)

/-- the same where nothing is handed back -/
theorem r_callM0 {f : FuncId} {fo : Operand} {xs : List Operand} {ats : Array TypeId} {first cap : List Value} {vs args : List Value} {X Hc Hr : Hp} {post : Value → Hp → Prop}
    (hcb : callB c.P f = true) (hg : gdB ops E g = some true) (hfo : ev E fo = some (.func (.func f) first.toArray cap.toArray)) (hxs : evs E xs = some vs) (hargs : first ++ vs ++ cap = args)
    (hsp : Spec c.P f args X Hc post) (hr : Rems Hc H Hr) (hi : Ins c.X Hr X)
    (k : ∀ v H', post v H' → K c (wpList c.P ops Q rest) E (H' ++ Hr)) : K c (wpList c.P ops Q (⟨none, .call ⟨.value fo, xs.toArray, ats⟩, ty, pos, af, g⟩ :: rest)) E H :=
  op_step hg fun a w hs => by
    unfold Oper.wp
    rw [call_run hs hfo hxs hcb, Oper.upon_enter]
    have := spec_at hs hsp hr hi
    rw [← hargs] at this
    have e : (first.toArray ++ vs.toArray ++ cap.toArray) = (first ++ vs ++ cap).toArray := by simp
    rw [e]
    refine this.mono ?_
    rintro e w' ⟨v, H', hp, rfl, hs'⟩
    exact k v H' hp _ _ (hs'.put_none v)

/-- a call that reads -/
theorem r_callR {f : FuncId} {fo : Operand} {xs : List Operand} {ats : Array TypeId} {first cap : List Value} {vs args : List Value} {X : Hp} {post : Value → Hp → Prop}
    (hcb : callB c.P f = true) (hg : gdB ops E g = some true) (hd : Nat.blt d c.n = true) (hfo : ev E fo = some (.func (.func f) first.toArray cap.toArray)) (hxs : evs E xs = some vs) (hargs : first ++ vs ++ cap = args)
    (hsp : Spec c.P f args X [] post) (hi : Ins c.X H X)
    (k : ∀ v H', post v H' → K c (wpList c.P ops Q rest) ((d, v) :: E) (H' ++ H)) : K c (wpList c.P ops Q (⟨some d, .call ⟨.value fo, xs.toArray, ats⟩, ty, pos, af, g⟩ :: rest)) E H :=
  r_callM hcb hg hd hfo hxs hargs hsp .z hi k

/-- a call that reads and returns a plain value -/
theorem r_callV {f : FuncId} {fo : Operand} {xs : List Operand} {ats : Array TypeId} {first cap : List Value} {vs args : List Value} {X : Hp} {v : Value}
    (hcb : callB c.P f = true) (hg : gdB ops E g = some true) (hd : Nat.blt d c.n = true) (hfo : ev E fo = some (.func (.func f) first.toArray cap.toArray)) (hxs : evs E xs = some vs) (hargs : first ++ vs ++ cap = args)
    (hsp : SpecV c.P f args X v) (hi : Ins c.X H X)
    (k : K c (wpList c.P ops Q rest) ((d, v) :: E) H) : K c (wpList c.P ops Q (⟨some d, .call ⟨.value fo, xs.toArray, ats⟩, ty, pos, af, g⟩ :: rest)) E H :=
  r_callM hcb hg hd hfo hxs hargs hsp .z hi fun u H' h => by
    obtain ⟨rfl, rfl⟩ := h
    exact k

/-- a call of a test: both ways -/
theorem s_callV {f : FuncId} {fo : Operand} {xs : List Operand} {ats : Array TypeId} {first cap : List Value} {vs args : List Value} {X : Hp} {t : Bool}
    (hcb : callB c.P f = true) (hg : gdB ops E g = some true) (hd : Nat.blt d c.n = true) (hfo : ev E fo = some (.func (.func f) first.toArray cap.toArray)) (hxs : evs E xs = some vs) (hargs : first ++ vs ++ cap = args)
    (hsp : SpecV c.P f args X (.bool t)) (hi : Ins c.X H X)
    (k1 : t = true → K c (wpList c.P ops Q rest) ((d, .bool true) :: E) H) (k2 : t = false → K c (wpList c.P ops Q rest) ((d, .bool false) :: E) H) : K c (wpList c.P ops Q (⟨some d, .call ⟨.value fo, xs.toArray, ats⟩, ty, pos, af, g⟩ :: rest)) E H :=
  r_callV hcb hg hd hfo hxs hargs hsp hi (by
    cases t with
    | true => exact k1 rfl
    | false => exact k2 rfl)
end

/- results -/
inductive Res (c : Ctx) (E : Env) (H : Hp) : ResultVar → Value → Prop
  | tmp {t v} : look E t = some v → Res c E H (.tmp t) v
  | cell1 {a t b off u fr v} {l : List Value} : aggB c.P t = some false → look E a = some (.pointer (some ⟨b, off, none⟩)) → In (b, .cells l.toArray u fr) c.X H → l[off]? = some v → Res c E H (.cell a t) v
  | cellA {a t b off u fr n vs} {l : List Value} : aggB c.P t = some true → szB c.P t = some n → look E a = some (.pointer (some ⟨b, off, none⟩)) → In (b, .cells l.toArray u fr) c.X H → takeAt l off n = some vs → Res c E H (.cell a t) (.agg vs.toArray)
inductive Ress (c : Ctx) (E : Env) (H : Hp) : List ResultVar → List Value → Prop
  | z : Ress c E H [] []
  | s {r v rs vs} : Res c E H r v → Ress c E H rs vs → Ress c E H (r :: rs) (v :: vs)

def resSem (tmps : Array Value) : ResultVar → Sem Value
  | .tmp t => pure (tmps.getD t undef)
  | .cell p t => do loadVar t (← asAddr (tmps.getD p undef))

theorem Res.run {c : Ctx} {E : Env} {H : Hp} {r : ResultVar} {v : Value} {a : Act} {w : World} (h : Res c E H r v) (hs : Sat c E H a w) :
    (resSem a.tmps r).run c.P w = .ok v w := by
  cases h with
  | tmp h => simp [resSem, hs.look h]
  | cell1 ha hl hm hv =>
    have h1 := (cell_at (hs.at hm)).trans hv
    simp [resSem, hs.look hl, asAddr, loadVar, run_agg ha, h1]
  | cellA ha hz hl hm hv =>
    unfold takeAt at hv
    split at hv
    · rename_i hle
      simp only [Option.some.injEq] at hv
      have h1 := run_loadN (P := c.P) (hs.at hm) _ hle
      rw [hv] at h1
      simp [resSem, hs.look hl, asAddr, loadVar, run_agg ha, run_sz hz, h1]
    · cases hv

def packV : List Value → Value
  | [v] => v
  | vs => .tuple vs.toArray

theorem results_run {c : Ctx} {E : Env} {H : Hp} {fn : Func} {rs : List ResultVar} {vs : List Value} {a : Act} {w : World} (hrs : fn.results = rs.toArray) (hl : Nat.ble rs.length 4 = true) (h : Ress c E H rs vs) (hs : Sat c E H a w) :
    (results fn a.tmps).run c.P w = .ok (packV vs) w := by
  have e : results fn a.tmps = (do
    let vs ← fn.results.mapM (resSem a.tmps)
    pure (if h : vs.size = 1 then vs[0] else .tuple vs)) := by
    unfold results
    congr 1
  rw [e, hrs]
  cases h with
  | z => simp [packV]
  | s h1 t =>
    have r1 := h1.run hs
    cases t with
    | z => simp [packV, r1]
    | s h2 t =>
      have r2 := h2.run hs
      cases t with
      | z => simp [packV, r1, r2]
      | s h3 t =>
        have r3 := h3.run hs
        cases t with
        | z => simp [packV, r1, r2, r3]
        | s h4 t =>
          have r4 := h4.run hs
          cases t with
          | z => simp [packV, r1, r2, r3, r4]
          | s h5 t => simp [Nat.ble_eq] at hl

def argEnv : Nat → List Value → Env
  | _, [] => []
  | k, v :: vs => (k, v) :: argEnv (k + 1) vs

theorem argEnv_look : ∀ (vs : List Value) (k j : Nat) (v : Value), look (argEnv k vs) j = some v → k ≤ j ∧ vs[j - k]? = some v
  | [], k, j, v, h => by simp [argEnv, look] at h
  | u :: us, k, j, v, h => by
    simp only [argEnv, look] at h
    cases hb : Nat.beq k j with
    | true =>
      rw [hb] at h
      have := Nat.eq_of_beq_eq_true hb
      subst this
      simp at h
      simp [h]
    | false =>
      rw [hb] at h
      obtain ⟨h1, h2⟩ := argEnv_look us (k + 1) j v (by simpa using h)
      refine ⟨by omega, ?_⟩
      rw [show j - k = (j - (k + 1)) + 1 by omega]
      simpa using h2

/-- what a function's end has to give -/
def Post (fn : Func) (c : Ctx) (post : Value → Hp → Prop) : Exit → Act → World → Prop :=
  bodyPost c.P fn fun e w' => ∃ v H', post v H' ∧ e = .returned v ∧ Keep c.M c.w0 w' ∧
      (∀ e ∈ H', w'.heap[e.1]? = some e.2) ∧ (∀ e ∈ H', c.w0.heap.size ≤ e.1 ∨ e.1 ∈ c.M) ∧ (H'.map Prod.fst).Nodup

theorem spec_of {P : Program} {f : FuncId} {fn : Func} {code : Code} {n : Nat} {args : List Value} {X Hc : Hp} {post : Value → Hp → Prop}
    (hf : P.funcs[f]? = some fn) (hb : fn.body = some code) (hn : fn.ntmps = n) (hle : Nat.ble args.length n = true)
    (h : ∀ w0 : World, K ⟨P, w0, Hc.map Prod.fst, X, n⟩ (code.wp P (Post fn ⟨P, w0, Hc.map Prod.fst, X, n⟩ post)) (argEnv 0 args) Hc) : Spec P f args X Hc post := by
  intro w hX hH hnd
  refine calls_of_wp hf hb ?_
  refine h w _ _ ⟨Keep.refl _ _, hX, ?_, ?_, rfl, hH, fun e he => .inr (List.mem_map.2 ⟨e, he, rfl⟩), hnd⟩
  · intro k v hk
    obtain ⟨_, h2⟩ := argEnv_look args 0 k v hk
    simp at h2
    simp only []
    rw [Array.getElem?_append_left (by have := (List.getElem?_eq_some_iff.1 h2).1; simpa using this)]
    simpa using h2
  · have : args.length ≤ n := by simpa [Nat.ble_eq] using hle
    simp [hn]; omega

theorem K_done {fn : Func} {c : Ctx} {E : Env} {H H' Hr : Hp} {post : Value → Hp → Prop} {rs : List ResultVar} {vs : List Value} (hrs : fn.results = rs.toArray) (hl : Nat.ble rs.length 4 = true) (hv : Ress c E H rs vs) (hr : Rems H' H Hr) (hp : post (packV vs) H') :
    K c (Post fn c post .ret) E H := fun a w hs => by
  have hs' := (hs.perm hr.perm).sub
  exact ⟨hs.nodef, packV vs, results_run hrs hl hv hs, packV vs, H', hp, rfl, hs.keep, hs'.own, hs'.orig, hs'.nodup⟩
theorem K_end {fn : Func} {c : Ctx} {E : Env} {H H' Hr : Hp} {post : Value → Hp → Prop} {rs : List ResultVar} {vs : List Value} (hrs : fn.results = rs.toArray) (hl : Nat.ble rs.length 4 = true) (hv : Ress c E H rs vs) (hr : Rems H' H Hr) (hp : post (packV vs) H') :
    K c (Post fn c post .normal) E H := fun a w hs => by
  have hs' := (hs.perm hr.perm).sub
  exact ⟨hs.nodef, packV vs, results_run hrs hl hv hs, packV vs, H', hp, rfl, hs.keep, hs'.own, hs'.orig, hs'.nodup⟩
end Go.Sl
