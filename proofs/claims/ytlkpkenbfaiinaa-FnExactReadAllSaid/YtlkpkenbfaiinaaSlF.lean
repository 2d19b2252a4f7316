/- Regions whose order is open: operations that turn nothing, in whatever order, and behind them a tail whose order is fixed. -/
import Derived.Test.YtlkpkenbfaiinaaSlE
namespace Go.Sl

structure SatE (c : Ctx) (E : Env) (a : Act) : Prop where
  env : ∀ k v, look E k = some v → a.tmps[k]? = some v
  size : a.tmps.size = c.n
  nodef : a.defers = []
structure SatH (c : Ctx) (H : Hp) (w : World) : Prop where
  keep : Keep c.M c.w0 w
  rd : ∀ e ∈ c.X, c.w0.heap[e.1]? = some e.2 ∧ e.1 ∉ c.M
  own : ∀ e ∈ H, w.heap[e.1]? = some e.2
  orig : ∀ e ∈ H, c.w0.heap.size ≤ e.1 ∨ e.1 ∈ c.M
  nodup : (H.map Prod.fst).Nodup
theorem Sat.e {c : Ctx} {E : Env} {H : Hp} {a : Act} {w : World} (h : Sat c E H a w) : SatE c E a := ⟨h.env, h.size, h.nodef⟩
theorem Sat.hh {c : Ctx} {E : Env} {H : Hp} {a : Act} {w : World} (h : Sat c E H a w) : SatH c H w := ⟨h.keep, h.rd, h.own, h.orig, h.nodup⟩
theorem SatE.sat {c : Ctx} {E : Env} {H : Hp} {a : Act} {w : World} (h : SatE c E a) (k : SatH c H w) : Sat c E H a w := ⟨k.keep, k.rd, h.env, h.size, h.nodef, k.own, k.orig, k.nodup⟩
theorem SatH.world {c : Ctx} {H : Hp} {w w' : World} (h : SatH c H w) (hk : Keep [] w w') : SatH c H w' :=
  ⟨h.keep.trans ⟨hk.os, hk.tape, hk.output, hk.size, fun k h1 _ => hk.block k h1 (by simp)⟩, h.rd, fun e he => by
    have := h.own e he
    rw [hk.block e.1 (getElem?_lt this) (by simp)]; exact this, h.orig, h.nodup⟩

/-- the operation yields v, whatever the world, and turns nothing -/
def QUp (P : Program) (w : World) (v : Value) : Result Next → Prop
  | .ok (.value u) w' => w' = w ∧ u = v
  | .ok (.enter f args) w' => w' = w ∧ Calls P f args w (fun e w'' => e = .returned v ∧ Keep [] w w'')
  | _ => False
def QAt (c : Ctx) (o : Oper) (a : Act) (H : Hp) (v : Value) : Prop := ∀ w, SatH c H w → QUp c.P w v ((execOp a.eval o).run c.P w)

def QL (c : Ctx) (ops : Array Oper) (H : Hp) (R : Act → Prop) : List Oper → Act → Prop
  | [], a => R a
  | o :: l, a => if Region.wanted o (yielded ops a.tmps) then ∃ v, QAt c o a H v ∧ QL c ops H R l (a.put o.dst v) else QL c ops H R l (a.put o.dst undef)

def KQ (c : Ctx) (ops : Array Oper) (R : Act → World → Prop) (l : List Oper) (E : Env) (H : Hp) : Prop :=
  ∀ a, SatE c E a → QL c ops H (fun a => ∀ w, SatH c H w → R a w) l a

section rules
variable {c : Ctx} {E : Env} {H : Hp} {R : Act → World → Prop} {ops : Array Oper} {rest : List Oper} {d : Nat} {ty : TypeId} {pos : String} {af : Array Edge} {g : Option (Nat × Bool)}

theorem SatE.put {a : Act} (h : SatE c E a) {d : Nat} (hd : Nat.blt d c.n = true) (v : Value) : SatE c ((d, v) :: E) (a.put (some d) v) := by
  have hd' : d < c.n := by simpa [Nat.blt_eq] using hd
  refine ⟨?_, by simp [Act.put, h.size], h.nodef⟩
  intro k u hk
  simp only [look] at hk
  cases hb : Nat.beq d k with
  | true =>
    have := Nat.eq_of_beq_eq_true hb
    subst this
    rw [hb] at hk
    simp at hk; subst hk
    simp [Act.put, h.size, hd']
  | false =>
    rw [hb] at hk
    have h1 := h.env k u (by simpa using hk)
    have e : d ≠ k := fun e => by subst e; rw [Nat.beq_refl] at hb; cases hb
    simp [Act.put, e, h1]

theorem wantedE {o : Oper} {t : Bool} {a : Act} (hs : SatE c E a) (hg : gdB ops E o.guard = some t) : Region.wanted o (yielded ops a.tmps) = t := by
  unfold gdB at hg
  unfold Region.wanted
  split at hg
  · rename_i h0; rw [h0]; simpa using hg
  · rename_i j b h0
    rw [h0]
    simp only [yielded]
    split at hg
    · rename_i k hk
      rw [hk]
      simp only [Option.bind_some]
      split at hg
      · rename_i u hu
        rw [hs.env _ _ hu]
        simp at hg; subst hg
        cases u <;> cases b <;> rfl
      · rename_i u hu
        rw [hs.env _ _ hu]
        simpa using hg
      · cases hg
    · rename_i hk
      rw [hk]
      simpa using hg

theorem q_nil (h : K c R E H) : KQ c ops R [] E H := fun a hs w hw => h a w (hs.sat hw)

theorem q_pure {op : Op} {v : Value} (hg : gdB ops E g = some true) (hd : Nat.blt d c.n = true) (hr : PR c E H ⟨some d, op, ty, pos, af, g⟩ v)
    (k : KQ c ops R rest ((d, v) :: E) H) : KQ c ops R (⟨some d, op, ty, pos, af, g⟩ :: rest) E H := by
  intro a hs
  unfold QL
  rw [if_pos (wantedE (o := ⟨some d, op, ty, pos, af, g⟩) hs hg)]
  refine ⟨v, fun w hw => ?_, k _ (hs.put hd v)⟩
  rw [hr a w (hs.sat hw)]
  exact ⟨rfl, rfl⟩

theorem q_skip {op : Op} (hg : gdB ops E g = some false) (hd : Nat.blt d c.n = true) (k : KQ c ops R rest ((d, undef) :: E) H) : KQ c ops R (⟨some d, op, ty, pos, af, g⟩ :: rest) E H := by
  intro a hs
  unfold QL
  rw [if_neg (by rw [wantedE (o := ⟨some d, op, ty, pos, af, g⟩) hs hg]; simp)]
  exact k _ (hs.put hd _)

theorem q_callV {f : FuncId} {fo : Operand} {xs : List Operand} {ats : Array TypeId} {first cap : List Value} {vs args : List Value} {X : Hp} {v : Value}
    (hcb : callB c.P f = true) (hg : gdB ops E g = some true) (hd : Nat.blt d c.n = true) (hfo : ev E fo = some (.func (.func f) first.toArray cap.toArray)) (hxs : evs E xs = some vs) (hargs : first ++ vs ++ cap = args)
    (hsp : SpecV c.P f args X v) (hi : Ins c.X H X)
    (k : KQ c ops R rest ((d, v) :: E) H) : KQ c ops R (⟨some d, .call ⟨.value fo, xs.toArray, ats⟩, ty, pos, af, g⟩ :: rest) E H := by
  intro a hs
  unfold QL
  rw [if_pos (wantedE (o := ⟨some d, .call ⟨.value fo, xs.toArray, ats⟩, ty, pos, af, g⟩) hs hg)]
  refine ⟨v, fun w hw => ?_, k _ (hs.put hd v)⟩
  have hsat := hs.sat hw
  rw [call_run hsat hfo hxs hcb]
  have e : (first.toArray ++ vs.toArray ++ cap.toArray) = args.toArray := by rw [← hargs]; simp
  rw [e]
  refine ⟨rfl, (hsp w (fun e he => ⟨?_, by simp⟩) (by simp) (by simp)).mono ?_⟩
  · exact hsat.at (hi.all e he)
  · rintro e w' ⟨u, H', ⟨hu, _⟩, he, hk, _⟩
    exact ⟨by rw [he, hu], hk⟩

theorem KQ_split {l : List Oper} {d : Nat} {t : Bool} (hd : look E d = some (.bool t)) (h1 : t = true → KQ c ops R l ((d, .bool true) :: E) H) (h2 : t = false → KQ c ops R l ((d, .bool false) :: E) H) : KQ c ops R l E H := by
  have key : KQ c ops R l ((d, .bool t) :: E) H := by
    cases t with
    | true => exact h1 rfl
    | false => exact h2 rfl
  intro a hs
  refine key a ⟨fun k v hk => ?_, hs.size, hs.nodef⟩
  simp only [look] at hk
  cases hb : Nat.beq d k with
  | true =>
    have := Nat.eq_of_beq_eq_true hb
    subst this
    rw [hb] at hk; simp at hk; subst hk
    exact hs.env d _ hd
  | false => rw [hb] at hk; exact hs.env k v (by simpa using hk)
end rules

/- the check on a region's edges -/
def edgesOn (o : Oper) : List Nat := (o.after.toList.filter (Region.binds .any)).map (·.on)
def mask1 (ms : List Nat) (o : Oper) : Nat := (edgesOn o).foldl (fun m j => m ||| (1 <<< j) ||| ms.getD j 0) 0
def masks : List Oper → List Nat → List Nat
  | [], acc => acc
  | o :: l, acc => masks l (acc ++ [mask1 acc o])
def dstsB : List Oper → List Nat → Bool
  | [], _ => true
  | o :: l, seen => match o.dst with
    | some d => !seen.contains d && dstsB l (d :: seen)
    | none => dstsB l seen
def notSel (o : Oper) : Bool := match o.op with | .select _ _ => false | _ => true
/-- head operation i looks only at slots that no head operation writes, or one that it waits for -/
def lookB (ops : Array Oper) (n : Nat) (m i : Nat) (o : Oper) : Bool :=
  (o.looksAt ops).all fun t => (List.range n).all fun j => !(((ops[j]?).bind (·.dst)) == some t) || (decide (j < i) && m.testBit j)
def indepB (l : List Oper) (n : Nat) : Bool :=
  let ms := masks l []
  decide (n ≤ l.length) && dstsB (l.take n) [] && (List.range l.length).all fun i =>
    match l[i]? with
    | some o => notSel o && (edgesOn o).all (fun j => decide (j < i)) &&
        (if i < n then lookB l.toArray n (ms.getD i 0) i o else (List.range i).all fun j => (ms.getD i 0).testBit j)
    | none => true

section order
variable {P : Program} {ops : Array Oper} {Q : Exit → Act → World → Prop}

def cnt (l : Array Bool) : Nat := l.toList.count false

theorem count_set : ∀ (l : List Bool) (i : Nat), l[i]? = some false → (l.set i true).count false + 1 = l.count false
  | [], i, h => by simp at h
  | b :: l, 0, h => by simp at h; subst h; simp
  | b :: l, i + 1, h => by
    have := count_set l i (by simpa using h)
    cases b <;> simp <;> omega

theorem ready_spec {listed : Array Bool} {i : Nat} (h : i ∈ Region.ready .any ops listed) :
    i < ops.size ∧ listed[i]? = some false ∧ ∃ o, ops[i]? = some o ∧ ∀ j ∈ edgesOn o, listed[j]? = some true := by
  unfold Region.ready at h
  rw [List.mem_filter, List.mem_range, Bool.and_eq_true] at h
  obtain ⟨h1, h2, h3⟩ := h
  refine ⟨h1, ?_, ?_⟩
  · rw [Array.getD_eq_getD_getElem?] at h2
    cases hl : listed[i]? with
    | none => rw [hl] at h2; simp at h2
    | some b => rw [hl] at h2; cases b <;> simp at h2 ⊢
  · cases ho : ops[i]? with
    | none => rw [ho] at h3; simp at h3
    | some o =>
      rw [ho] at h3
      simp only [Option.map_some, Option.getD_some] at h3
      refine ⟨o, rfl, fun j hj => ?_⟩
      unfold edgesOn at hj
      obtain ⟨e, he, rfl⟩ := List.mem_map.1 hj
      obtain ⟨he1, he2⟩ := List.mem_filter.1 he
      have h4 := (Array.all_eq_true_iff_forall_mem.1 h3) e (by simpa using he1)
      rw [he2] at h4
      simp only [Bool.not_true, Bool.false_or] at h4
      rw [Array.getD_eq_getD_getElem?] at h4
      cases hl : listed[e.on]? with
      | none => rw [hl] at h4; simp at h4
      | some b => rw [hl] at h4; simp at h4; rw [h4]

theorem ready_of {listed : Array Bool} {i : Nat} {o : Oper} (hi : i < ops.size) (hl : listed[i]? = some false) (ho : ops[i]? = some o) (he : ∀ j ∈ edgesOn o, listed[j]? = some true) : i ∈ Region.ready .any ops listed := by
  unfold Region.ready
  rw [List.mem_filter, List.mem_range, Bool.and_eq_true]
  refine ⟨hi, ?_, ?_⟩
  · rw [Array.getD_eq_getD_getElem?, hl]; rfl
  · rw [ho]
    simp only [Option.map_some, Option.getD_some]
    refine Array.all_eq_true_iff_forall_mem.2 fun e hem => ?_
    cases hb : Region.binds .any e with
    | false => rfl
    | true =>
      have := he e.on (List.mem_map.2 ⟨e, List.mem_filter.2 ⟨by simpa using hem, hb⟩, rfl⟩)
      rw [Array.getD_eq_getD_getElem?, this]; rfl

/-- an invariant carries any order through -/
theorem wpAny_inv (Inv : Array Bool → Act → World → Prop) (hsz : ∀ listed a w, Inv listed a w → listed.size = ops.size)
    (hlow : ∀ i o, ops[i]? = some o → ∀ j ∈ edgesOn o, j < i)
    (hend : ∀ listed a w, Inv listed a w → (∀ i, i < ops.size → listed[i]? = some true) → Q .normal a w)
    (hstep : ∀ listed a w i, Inv listed a w → i ∈ Region.ready .any ops listed → wpOp P ops Q i (fun a' w' => Inv (listed.setIfInBounds i true) a' w') a w) :
    ∀ (fuel : Nat) (listed : Array Bool) (a : Act) (w : World), cnt listed = fuel → Inv listed a w → wpAny P .any ops Q fuel listed a w := by
  have none_ready : ∀ listed a w, Inv listed a w → Region.ready .any ops listed = [] → ∀ i, i < ops.size → listed[i]? = some true := by
    intro listed a w hinv hr i
    induction i using Nat.strongRecOn with
    | _ i ih =>
      intro hi
      have hlt : i < listed.size := by rw [hsz _ _ _ hinv]; exact hi
      cases hb : listed[i] with
      | true => rw [Array.getElem?_eq_getElem hlt, hb]
      | false =>
        exfalso
        have := ready_of (ops := ops) (listed := listed) (o := ops[i]) hi (by rw [Array.getElem?_eq_getElem hlt, hb]) (Array.getElem?_eq_getElem hi) (fun j hj => ih j (hlow i _ (Array.getElem?_eq_getElem hi) j hj) (Nat.lt_trans (hlow i _ (Array.getElem?_eq_getElem hi) j hj) hi))
        rw [hr] at this; cases this
  intro fuel
  induction fuel with
  | zero =>
    intro listed a w hc hinv
    have hall : ∀ i, i < ops.size → listed[i]? = some true := by
      intro i hi
      have hlt : i < listed.size := by rw [hsz _ _ _ hinv]; exact hi
      rw [Array.getElem?_eq_getElem hlt]
      cases hb : listed[i] with
      | true => rfl
      | false =>
        exfalso
        have : false ∈ listed.toList := by
          rw [← hb]; simp
        have := List.count_pos_iff.2 this
        unfold cnt at hc
        omega
    refine ⟨?_, hend _ _ _ hinv hall⟩
    apply List.eq_nil_iff_forall_not_mem.2
    intro i hi
    obtain ⟨h1, h2, _⟩ := ready_spec hi
    rw [hall i h1] at h2
    cases h2
  | succ fuel ih =>
    intro listed a w hc hinv
    refine ⟨fun hr => hend _ _ _ hinv (none_ready _ _ _ hinv hr), fun i hi => ?_⟩
    refine wpOp_mono (fun a' w' h => ih _ a' w' ?_ h) (hstep _ _ _ i hinv hi)
    obtain ⟨h1, h2, _⟩ := ready_spec hi
    have := count_set listed.toList i (by simpa using h2)
    unfold cnt at *
    rw [Array.toList_setIfInBounds]
    omega
end order

section trace
variable {c : Ctx} {ops : Array Oper} {H : Hp} {R : Act → Prop}

theorem QL_trace : ∀ (l : List Oper) (a : Act), QL c ops H R l a → ∃ st : Nat → Act, st 0 = a ∧ R (st l.length) ∧
    ∀ i o, l[i]? = some o → ∃ v, st (i + 1) = (st i).put o.dst v ∧ (Region.wanted o (yielded ops (st i).tmps) = true → QAt c o (st i) H v) ∧ (Region.wanted o (yielded ops (st i).tmps) = false → v = undef)
  | [], a, h => ⟨fun _ => a, rfl, h, fun i o hi => by simp at hi⟩
  | o :: l, a, h => by
    have key : ∃ v, (Region.wanted o (yielded ops a.tmps) = true → QAt c o a H v) ∧ (Region.wanted o (yielded ops a.tmps) = false → v = undef) ∧ QL c ops H R l (a.put o.dst v) := by
      unfold QL at h
      split at h
      · rename_i hw
        obtain ⟨v, h1, h2⟩ := h
        exact ⟨v, fun _ => h1, fun hf => (by rw [hf] at hw; cases hw), h2⟩
      · rename_i hw
        exact ⟨undef, fun ht => absurd ht hw, fun _ => rfl, h⟩
    obtain ⟨v, h1, h2, h3⟩ := key
    obtain ⟨st, s0, sR, sS⟩ := QL_trace l _ h3
    refine ⟨fun i => match i with | 0 => a | i + 1 => st i, rfl, by simpa using sR, ?_⟩
    intro i p hp
    cases i with
    | zero =>
      simp at hp; subst hp
      exact ⟨v, by simpa using s0, h1, h2⟩
    | succ i => exact sS i p (by simpa using hp)
end trace

section masks
variable {listed : Array Bool}
def Lst (listed : Array Bool) (j : Nat) : Prop := listed[j]? = some true
def GoodM (listed : Array Bool) (acc : List Nat) : Prop := ∀ i, Lst listed i → ∀ j, (acc.getD i 0).testBit j = true → Lst listed j

theorem fold_bits (acc : List Nat) : ∀ (es : List Nat) (m j : Nat), (es.foldl (fun m j => m ||| (1 <<< j) ||| acc.getD j 0) m).testBit j = true → m.testBit j = true ∨ ∃ e ∈ es, j = e ∨ (acc.getD e 0).testBit j = true
  | [], m, j, h => .inl h
  | e :: es, m, j, h => by
    rcases fold_bits acc es _ j (by simpa using h) with h1 | ⟨e', he, h1⟩
    · rw [Nat.testBit_or, Nat.testBit_or, Nat.one_shiftLeft, Nat.testBit_two_pow] at h1
      simp only [Bool.or_eq_true, decide_eq_true_eq] at h1
      rcases h1 with (h1 | h1) | h1
      · exact .inl h1
      · exact .inr ⟨e, List.mem_cons_self, .inl h1.symm⟩
      · exact .inr ⟨e, List.mem_cons_self, .inr h1⟩
    · exact .inr ⟨e', List.mem_cons_of_mem _ he, h1⟩

theorem mask1_ok {acc : List Nat} {o : Oper} (hg : GoodM listed acc) (he : ∀ j ∈ edgesOn o, Lst listed j) : ∀ j, (mask1 acc o).testBit j = true → Lst listed j := by
  intro j hj
  rcases fold_bits acc (edgesOn o) 0 j hj with h | ⟨e, hm, rfl | h⟩
  · simp at h
  · exact he _ hm
  · exact hg e (he e hm) j h

theorem masks_good (L : List Oper) (hdown : ∀ i o, L[i]? = some o → Lst listed i → ∀ j ∈ edgesOn o, Lst listed j) :
    ∀ (l pre : List Oper) (acc : List Nat), L = pre ++ l → acc.length = pre.length → GoodM listed acc →
      (∀ i o, i < acc.length → L[i]? = some o → (∀ j ∈ edgesOn o, Lst listed j) → ∀ j, (acc.getD i 0).testBit j = true → Lst listed j) →
      ∀ i o, L[i]? = some o → (∀ j ∈ edgesOn o, Lst listed j) → ∀ j, ((masks l acc).getD i 0).testBit j = true → Lst listed j
  | [], pre, acc, hL, hlen, hg, hq => by
    intro i o ho he j hj
    have : i < acc.length := by
      have := (List.getElem?_eq_some_iff.1 ho).1
      rw [hL] at this; simp at this; omega
    exact hq i o this ho he j hj
  | o :: l, pre, acc, hL, hlen, hg, hq => by
    have hLo : L[acc.length]? = some o := by rw [hL, hlen]; simp
    refine masks_good L hdown l (pre ++ [o]) (acc ++ [mask1 acc o]) (by simp [hL]) (by simp [hlen]) ?_ ?_
    · intro i hi j hj
      by_cases h1 : i < acc.length
      · rw [List.getD_eq_getElem?_getD, List.getElem?_append_left h1, ← List.getD_eq_getElem?_getD] at hj
        exact hg i hi j hj
      · by_cases h2 : i = acc.length
        · subst h2
          simp at hj
          exact mask1_ok hg (hdown _ _ hLo hi) j hj
        · rw [List.getD_eq_getElem?_getD, List.getElem?_eq_none (by simp; omega)] at hj
          simp at hj
    · intro i p hi hp he j hj
      by_cases h1 : i < acc.length
      · rw [List.getD_eq_getElem?_getD, List.getElem?_append_left h1, ← List.getD_eq_getElem?_getD] at hj
        exact hq i p h1 hp he j hj
      · have h2 : i = acc.length := by simp at hi; omega
        subst h2
        rw [hLo] at hp; simp at hp; subst hp
        simp at hj
        exact mask1_ok hg he j hj
end masks

theorem dsts_nodup : ∀ (l : List Oper) (seen : List Nat), dstsB l seen = true → (∀ (i : Nat) (o : Oper) (d : Nat), l[i]? = some o → o.dst = some d → d ∉ seen) ∧
    ∀ (i j : Nat) (o p : Oper) (d : Nat), l[i]? = some o → l[j]? = some p → o.dst = some d → p.dst = some d → i = j
  | [], seen, _ => ⟨fun i o d h => by simp at h, fun i j o p d h => by simp at h⟩
  | q :: l, seen, h => by
    unfold dstsB at h
    split at h
    · rename_i d0 hd0
      simp only [Bool.and_eq_true, Bool.not_eq_true'] at h
      obtain ⟨h1, h2⟩ := h
      obtain ⟨a1, a2⟩ := dsts_nodup l _ h2
      have hn : d0 ∉ seen := by simpa using h1
      refine ⟨?_, ?_⟩
      · intro i o d hi hd
        cases i with
        | zero => simp at hi; subst hi; rw [hd0] at hd; simp at hd; subst hd; exact hn
        | succ i => exact fun hm => a1 i o d (by simpa using hi) hd (List.mem_cons_of_mem _ hm)
      · intro i j o p d hi hj hd hd'
        cases i with
        | zero =>
          simp at hi; subst hi
          cases j with
          | zero => rfl
          | succ j =>
            rw [hd0] at hd; simp at hd; subst hd
            exact absurd List.mem_cons_self (a1 j p _ (by simpa using hj) hd')
        | succ i =>
          cases j with
          | zero =>
            simp at hj; subst hj
            rw [hd0] at hd'; simp at hd'; subst hd'
            exact absurd List.mem_cons_self (a1 i o _ (by simpa using hi) hd)
          | succ j => exact congrArg (· + 1) (a2 i j o p d (by simpa using hi) (by simpa using hj) hd hd')
    · rename_i hd0
      obtain ⟨a1, a2⟩ := dsts_nodup l seen h
      refine ⟨?_, ?_⟩
      · intro i o d hi hd
        cases i with
        | zero => simp at hi; subst hi; rw [hd0] at hd; cases hd
        | succ i => exact a1 i o d (by simpa using hi) hd
      · intro i j o p d hi hj hd hd'
        cases i with
        | zero => simp at hi; subst hi; rw [hd0] at hd; cases hd
        | succ i =>
          cases j with
          | zero => simp at hj; subst hj; rw [hd0] at hd'; cases hd'
          | succ j => exact congrArg (· + 1) (a2 i j o p d (by simpa using hi) (by simpa using hj) hd hd')

theorem eval_agree {a b : Act} {x : Operand} (h : ∀ t, x = .tmp t → a.tmps[t]? = b.tmps[t]?) : a.eval x = b.eval x := by
  cases x with
  | tmp t =>
    have := h t rfl
    simp only [Act.eval, Array.getD_eq_getD_getElem?, this]
  | _ => rfl

theorem put_get {a : Act} {o : Oper} {v : Value} {t : Nat} : (a.put o.dst v).tmps[t]? = if o.dst = some t ∧ t < a.tmps.size then some v else a.tmps[t]? := by
  cases hd : o.dst with
  | none => simp [Act.put]
  | some d =>
    simp only [Act.put, Array.getElem?_setIfInBounds]
    by_cases h : d = t
    · subst h
      by_cases h2 : d < a.tmps.size
      · simp [h2]
      · simp [h2]
    · simp [h]
theorem put_size {a : Act} {o : Oper} {v : Value} : (a.put o.dst v).tmps.size = a.tmps.size := by
  cases hd : o.dst <;> simp [Act.put]
theorem put_defers {a : Act} {o : Oper} {v : Value} : (a.put o.dst v).defers = a.defers := by
  cases hd : o.dst <;> simp [Act.put]

theorem R_draw {c : Ctx} {E : Env} {H : Hp} {Q : Exit → Act → World → Prop} {id : Nat} {l : List Oper} (n : Nat) (hm : c.P.follows .mixedOrders = true) (hB : indepB l n = true)
    (h : KQ c l.toArray (fun a w => wpList c.P l.toArray Q (l.drop n) a w) (l.take n) E H) : K c ((Code.region id l.toArray true).wp c.P Q) E H := by
  intro a w hs
  unfold indepB at hB
  simp only [Bool.and_eq_true, decide_eq_true_eq] at hB
  obtain ⟨⟨hnl, hdst⟩, hall⟩ := hB
  have hall' : ∀ i o, l[i]? = some o → notSel o = true ∧ (∀ j ∈ edgesOn o, j < i) ∧ (i < n → lookB l.toArray n ((masks l []).getD i 0) i o = true) ∧ (n ≤ i → ∀ j, j < i → ((masks l []).getD i 0).testBit j = true) := by
    intro i o ho
    have hi := (List.getElem?_eq_some_iff.1 ho).1
    have := (List.all_eq_true.1 hall) i (List.mem_range.2 hi)
    rw [ho] at this
    simp only [Bool.and_eq_true, List.all_eq_true, decide_eq_true_eq] at this
    obtain ⟨⟨h1, h2⟩, h3⟩ := this
    refine ⟨h1, h2, fun hin => ?_, fun hin j hj => ?_⟩
    · rw [if_pos hin] at h3; exact h3
    · rw [if_neg (by omega)] at h3
      exact (List.all_eq_true.1 h3) j (List.mem_range.2 hj)
  obtain ⟨_, huniq⟩ := dsts_nodup _ _ hdst
  obtain ⟨st, s0, sR, sS⟩ := QL_trace _ _ (h a hs.e)
  have htl : (l.take n).length = n := by simp; omega
  rw [htl] at sR
  have sS' : ∀ i o, i < n → l[i]? = some o → ∃ v, st (i + 1) = (st i).put o.dst v ∧ (Region.wanted o (yielded l.toArray (st i).tmps) = true → QAt c o (st i) H v) ∧ (Region.wanted o (yielded l.toArray (st i).tmps) = false → v = undef) :=
    fun i o hi ho => sS i o (by rw [List.getElem?_take, if_pos hi]; exact ho)
  have stsize : ∀ i, i ≤ n → (st i).tmps.size = a.tmps.size ∧ (st i).defers = a.defers := by
    intro i
    induction i with
    | zero => intro _; rw [s0]; exact ⟨rfl, rfl⟩
    | succ i ih =>
      intro hi
      obtain ⟨v, hv, _⟩ := sS' i l[i] (by omega) (List.getElem?_eq_getElem (by omega))
      obtain ⟨i1, i2⟩ := ih (by omega)
      rw [hv, put_size, put_defers]; exact ⟨i1, i2⟩
  have huniq' : ∀ (i j : Nat) (o p : Oper) (d : Nat), i < n → j < n → l[i]? = some o → l[j]? = some p → o.dst = some d → p.dst = some d → i = j :=
    fun i j o p d hi hj ho hp => huniq i j o p d (by rw [List.getElem?_take, if_pos hi]; exact ho) (by rw [List.getElem?_take, if_pos hj]; exact hp)
  -- a slot that the heads from i on do not write holds from i to m
  have stkeep : ∀ (t i m : Nat), i ≤ m → m ≤ n → (∀ j o, i ≤ j → j < m → l[j]? = some o → o.dst ≠ some t) → (st m).tmps[t]? = (st i).tmps[t]? := by
    intro t i m him
    induction m with
    | zero => intro _ _; have : i = 0 := by omega
              subst this; rfl
    | succ m ih =>
      intro hm hno
      by_cases e : i = m + 1
      · subst e; rfl
      · obtain ⟨v, hv, _⟩ := sS' m l[m] (by omega) (List.getElem?_eq_getElem (by omega))
        rw [hv, put_get, if_neg (fun hc => hno m _ (by omega) (by omega) (List.getElem?_eq_getElem (by omega)) hc.1)]
        exact ih (by omega) (by omega) (fun j o h1 h2 => hno j o h1 (by omega))
  have stwrit : ∀ (j m : Nat) (o : Oper) (t : Nat), j < m → m ≤ n → l[j]? = some o → o.dst = some t → (st m).tmps[t]? = (st n).tmps[t]? := by
    intro j m o t hjm hmn ho hd
    exact (stkeep t m n hmn (Nat.le_refl _) (fun k p h1 h2 hp hpd => by
      have := huniq' j k o p t (by omega) h2 ho hp hd hpd
      omega)).symm
  -- the invariant
  let Down := fun (listed : Array Bool) => ∀ i o, l[i]? = some o → Lst listed i → ∀ j ∈ edgesOn o, Lst listed j
  let PA := fun (listed : Array Bool) (a' : Act) (w' : World) => (∀ i, n ≤ i → i < l.length → listed[i]? = some false) ∧ SatH c H w' ∧ a'.tmps.size = a.tmps.size ∧ a'.defers = a.defers ∧
    (∀ i o t, i < n → Lst listed i → l[i]? = some o → o.dst = some t → a'.tmps[t]? = (st n).tmps[t]?) ∧
    (∀ t, (∀ i o, i < n → Lst listed i → l[i]? = some o → o.dst ≠ some t) → a'.tmps[t]? = a.tmps[t]?)
  let PB := fun (listed : Array Bool) (a' : Act) (w' : World) => ∃ k, n ≤ k ∧ k ≤ l.length ∧ (∀ i, i < k → Lst listed i) ∧ (∀ i, k ≤ i → i < l.length → listed[i]? = some false) ∧ wpList c.P l.toArray Q (l.drop k) a' w'
  have AtoB : ∀ listed a' w', PA listed a' w' → (∀ i, i < n → Lst listed i) → PB listed a' w' := by
    intro listed a' w' ⟨h1, h2, h3, h4, h5, h6⟩ hl
    refine ⟨n, Nat.le_refl _, hnl, hl, h1, ?_⟩
    have : a' = st n := by
      obtain ⟨z1, z2⟩ := stsize n (Nat.le_refl _)
      have ht : a'.tmps = (st n).tmps := by
        apply Array.ext_getElem?
        intro t
        by_cases hex : ∃ i o, i < n ∧ l[i]? = some o ∧ o.dst = some t
        · obtain ⟨i, o, hi, ho, hd⟩ := hex
          exact h5 i o t hi (hl i hi) ho hd
        · rw [h6 t (fun i o hi _ ho hd => hex ⟨i, o, hi, ho, hd⟩), stkeep t 0 n (Nat.zero_le _) (Nat.le_refl _) (fun j o _ hj ho hd => hex ⟨j, o, hj, ho, hd⟩), s0]
      cases a'
      cases hst : st n
      rw [hst] at ht z2
      simp only at ht z2 h4
      simp [ht, h4, z2]
    rw [this]
    exact sR w' h2
  refine wp_region_any hm ?_
  refine wpAny_inv (fun listed a' w' => listed.size = l.length ∧ Down listed ∧ (PA listed a' w' ∨ PB listed a' w')) (fun _ _ _ hi => by simpa using hi.1) ?_ ?_ ?_ _ _ _ _ ?_ ?_
  · intro i o ho j hj
    exact (hall' i o (by simpa using ho)).2.1 j hj
  · intro listed a' w' ⟨hsz, _, hAB⟩ hlall
    have hB : PB listed a' w' := by
      rcases hAB with hA | hB
      · exact AtoB _ _ _ hA (fun i hi => hlall i (by simp; omega))
      · exact hB
    obtain ⟨k, k1, k2, k3, k4, k5⟩ := hB
    have : k = l.length := by
      rcases Nat.lt_or_ge k l.length with hk | hk
      · have e1 := k4 k (Nat.le_refl _) hk
        rw [hlall k (by simpa using hk)] at e1; cases e1
      · omega
    subst this
    rw [List.drop_length] at k5
    exact k5
  · intro listed a' w' i ⟨hsz, hdown, hAB⟩ hr
    obtain ⟨hi, hif, o, ho, hoe⟩ := ready_spec hr
    have hi' : i < l.length := by simpa using hi
    have ho' : l[i]? = some o := by simpa using ho
    obtain ⟨hsel, _, hlook, htail⟩ := hall' i o ho'
    have hmask : ∀ j, ((masks l []).getD i 0).testBit j = true → Lst listed j :=
      masks_good l hdown l [] [] rfl rfl (fun i _ j hj => by simp at hj) (fun i o h0 => by simp at h0) i o ho' hoe
    have hset : ∀ k, (listed.setIfInBounds i true)[k]? = if i = k then some true else listed[k]? := by
      intro k
      rw [Array.getElem?_setIfInBounds]
      by_cases h1 : i = k
      · subst h1; rw [if_pos rfl, if_pos rfl, if_pos (by omega)]
      · rw [if_neg h1, if_neg h1]
    have hLmono : ∀ k, Lst listed k → Lst (listed.setIfInBounds i true) k := by
      intro k hk
      unfold Lst
      rw [hset]; split
      · rfl
      · exact hk
    have hLinv : ∀ k, Lst (listed.setIfInBounds i true) k → k = i ∨ Lst listed k := by
      intro k hk
      unfold Lst at hk
      rw [hset] at hk
      split at hk
      · exact .inl (by omega)
      · exact .inr hk
    have hdown' : Down (listed.setIfInBounds i true) := by
      intro k p hp hk j hj
      rcases hLinv k hk with rfl | hk
      · rw [ho'] at hp; simp at hp; subst hp
        exact hLmono _ (hoe j hj)
      · exact hLmono _ (hdown k p hp hk j hj)
    have hsz' : (listed.setIfInBounds i true).size = l.length := by simpa using hsz
    by_cases hin : i < n
    · -- a head
      have hA : PA listed a' w' := by
        rcases hAB with hA | ⟨k, k1, k2, k3, k4, k5⟩
        · exact hA
        · have := k3 i (by omega)
          unfold Lst at this
          rw [hif] at this; cases this
      obtain ⟨h1, h2, h3, h4, h5, h6⟩ := hA
      obtain ⟨v, sv, sq, su⟩ := sS' i o hin ho'
      have hlk := hlook hin
      unfold lookB at hlk
      have agree : ∀ t ∈ o.looksAt l.toArray, a'.tmps[t]? = (st i).tmps[t]? := by
        intro t ht
        have hlt := (List.all_eq_true.1 hlk) t ht
        by_cases hex : ∃ j p, j < n ∧ l[j]? = some p ∧ p.dst = some t
        · obtain ⟨j, p, hj, hp, hd⟩ := hex
          have := (List.all_eq_true.1 hlt) j (List.mem_range.2 hj)
          have hbind : ((l.toArray[j]?).bind (·.dst)) = some t := by
            rw [List.getElem?_toArray, hp]; simpa using hd
          rw [hbind] at this
          simp only [beq_self_eq_true, Bool.not_true, Bool.false_or, Bool.and_eq_true, decide_eq_true_eq] at this
          obtain ⟨hji, hbit⟩ := this
          rw [h5 j p t hj (hmask j hbit) hp hd]
          exact (stwrit j i p t hji (by omega) hp hd).symm
        · rw [h6 t (fun k p hk _ hp hd => hex ⟨k, p, hk, hp, hd⟩), stkeep t 0 i (Nat.zero_le _) (by omega) (fun j p _ hj hp hd => hex ⟨j, p, by omega, hp, hd⟩), s0]
      have hexec : execOp a'.eval o = execOp (st i).eval o := by
        refine execOp_congr o (fun cs b hsb => ?_) (fun x hx => eval_agree (fun t htx => agree t ?_))
        · unfold notSel at hsel
          rw [hsb] at hsel; cases hsel
        · subst htx
          exact List.mem_append_left _ (List.mem_filterMap.2 ⟨.tmp t, by simpa using hx, rfl⟩)
      have hyield : ∀ g, o.guard = some g → yielded l.toArray a'.tmps g.1 = yielded l.toArray (st i).tmps g.1 := by
        intro g hg
        unfold yielded
        cases hb : (l.toArray[g.1]?).bind (·.dst) with
        | none => rfl
        | some t =>
          have : t ∈ o.looksAt l.toArray := by
            refine List.mem_append_right _ ?_
            rw [hg]
            obtain ⟨g1, g2⟩ := g
            simp only at hb ⊢
            rw [hb]; simp
          simp only [Option.bind_some]
          rw [agree t this]
      have hwant : Region.wanted o (yielded l.toArray a'.tmps) = Region.wanted o (yielded l.toArray (st i).tmps) := by
        unfold Region.wanted
        cases hg : o.guard with
        | none => rfl
        | some g =>
          have := hyield g hg
          obtain ⟨g1, g2⟩ := g
          simp only at this ⊢
          rw [this]
      have next : ∀ w'', SatH c H w'' → PA (listed.setIfInBounds i true) (a'.put o.dst v) w'' := by
        intro w'' hw''
        refine ⟨fun k hk hk2 => ?_, hw'', by rw [put_size, h3], by rw [put_defers, h4], ?_, ?_⟩
        · rw [hset, if_neg (by omega)]; exact h1 k hk hk2
        · intro k p t hk hLk hp hd
          rw [put_get]
          rcases hLinv k hLk with rfl | hLk2
          · rw [ho'] at hp; simp at hp; subst hp
            rw [← stwrit k (k + 1) o t (by omega) (by omega) ho' hd, sv, put_get, h3, (stsize k (by omega)).1]
            by_cases hts : t < a.tmps.size
            · rw [if_pos ⟨hd, hts⟩, if_pos ⟨hd, hts⟩]
            · have hle : a.tmps.size ≤ t := Nat.le_of_not_lt hts
              rw [if_neg (fun hc => hts hc.2), if_neg (fun hc => hts hc.2)]
              have e1 : a'.tmps[t]? = none := Array.getElem?_eq_none (by rw [h3]; exact hle)
              have e2 : (st k).tmps[t]? = none := Array.getElem?_eq_none (by rw [(stsize k (by omega)).1]; exact hle)
              rw [e1, e2]
          · rw [if_neg (fun hc => by
              have := huniq' k i p o t hk hin hp ho' hd hc.1
              subst this
              unfold Lst at hLk2
              rw [hif] at hLk2; cases hLk2)]
            exact h5 k p t hk hLk2 hp hd
        · intro t hno
          rw [put_get, if_neg (fun hc => hno i o hin (by unfold Lst; rw [hset, if_pos rfl]) ho' hc.1)]
          exact h6 t (fun k p hk hLk hp => hno k p hk (hLmono k hLk) hp)
      unfold wpOp
      rw [ho]
      simp only []
      cases hwv : Region.wanted o (yielded l.toArray a'.tmps) with
      | true =>
        rw [if_pos rfl]
        left
        have hq := sq (by rw [← hwant]; exact hwv) w' h2
        unfold Oper.wp
        rw [hexec]
        generalize (execOp (st i).eval o).run c.P w' = r at hq
        cases r with
        | halt x w2 => exact hq.elim
        | ok x w2 =>
          cases x with
          | value u =>
            obtain ⟨rfl, rfl⟩ := hq
            rw [Oper.upon_value]
            exact ⟨hsz', hdown', .inl (next _ h2)⟩
          | enter f args =>
            obtain ⟨rfl, hcall⟩ := hq
            rw [Oper.upon_enter]
            refine hcall.mono ?_
            rintro e w3 ⟨rfl, hk⟩
            exact ⟨hsz', hdown', .inl (next _ (h2.world hk))⟩
          | _ => exact hq.elim
      | false =>
        rw [if_neg (by simp)]
        have := su (by rw [← hwant]; exact hwv)
        subst this
        exact ⟨hsz', hdown', .inl (next _ h2)⟩
    · -- the tail
      have hbits : ∀ j, j < i → Lst listed j := fun j hj => hmask j (htail (by omega) j hj)
      have hB : PB listed a' w' := by
        rcases hAB with hA | hB
        · exact AtoB _ _ _ hA (fun j hj => hbits j (by omega))
        · exact hB
      obtain ⟨k, k1, k2, k3, k4, k5⟩ := hB
      have hki : k = i := by
        rcases Nat.lt_trichotomy k i with hk | hk | hk
        · have e1 := k4 k (Nat.le_refl _) (by omega)
          have e2 := hbits k hk
          unfold Lst at e2
          rw [e1] at e2; cases e2
        · exact hk
        · have e2 := k3 i hk
          unfold Lst at e2
          rw [hif] at e2; cases e2
      subst hki
      have hdrop : l.drop k = o :: l.drop (k + 1) := by
        rw [List.drop_eq_getElem_cons hi']
        congr 1
        rw [List.getElem?_eq_getElem hi'] at ho'
        simpa using ho'
      rw [hdrop] at k5
      have hfin : ∀ a2 w2, wpList c.P l.toArray Q (l.drop (k + 1)) a2 w2 → (listed.setIfInBounds k true).size = l.length ∧ Down (listed.setIfInBounds k true) ∧ (PA (listed.setIfInBounds k true) a2 w2 ∨ PB (listed.setIfInBounds k true) a2 w2) := by
        intro a2 w2 hw2
        refine ⟨hsz', hdown', .inr ⟨k + 1, by omega, by omega, fun j hj => ?_, fun j hj hj2 => ?_, hw2⟩⟩
        · unfold Lst
          rw [hset]
          by_cases e : k = j
          · rw [if_pos e]
          · rw [if_neg e]; exact k3 j (by omega)
        · rw [hset, if_neg (by omega)]
          exact k4 j (by omega) hj2
      unfold wpOp
      rw [ho]
      simp only []
      unfold wpList at k5
      split
      · rename_i hw
        rw [if_pos hw] at k5
        exact k5.imp (Oper.wp_mono hfin) (fun x => x)
      · rename_i hw
        rw [if_neg hw] at k5
        exact hfin _ _ k5
  · unfold cnt; simp
  · refine ⟨by simp, ?_, .inl ⟨fun i _ hi => by simp [hi], (hs.hh.world ⟨rfl, rfl, rfl, Nat.le_refl _, fun _ _ _ => rfl⟩), rfl, rfl, ?_, fun t _ => rfl⟩⟩
    · intro i o ho hi
      unfold Lst at hi
      rw [Array.getElem?_replicate] at hi
      split at hi <;> simp at hi
    · intro i o t hi hL
      unfold Lst at hL
      rw [Array.getElem?_replicate] at hL
      split at hL <;> simp at hL

theorem R_drawAll {c : Ctx} {E : Env} {H : Hp} {Q : Exit → Act → World → Prop} {id : Nat} {l : List Oper} (hm : c.P.follows .mixedOrders = true) (hB : indepB l l.length = true)
    (h : KQ c l.toArray (Q .normal) l E H) : K c ((Code.region id l.toArray true).wp c.P Q) E H :=
  R_draw l.length hm hB (by
    rw [List.take_length, List.drop_length]
    exact h)
end Go.Sl
