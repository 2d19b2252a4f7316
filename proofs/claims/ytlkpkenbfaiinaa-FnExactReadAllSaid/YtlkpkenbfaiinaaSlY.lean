/- Regions whose order is open: operations that turn nothing, between them operations that turn something, each proved where it may stand. -/
import Derived.Test.YtlkpkenbfaiinaaSlX
namespace Go.Sl

def only (R : Act → World → Prop) : Exit → Act → World → Prop
  | .normal => R
  | _ => fun _ _ => False
theorem wp_only {P : Program} {o : Oper} {a : Act} {w : World} {K K' R : Act → World → Prop} {Q : Exit → Act → World → Prop} (h : o.wp P a w K' (only R)) (hk : ∀ a w, K' a w → K a w) : o.wp P a w K Q := by
  unfold Oper.wp at *
  generalize (execOp a.eval o).run P w = r at *
  cases r with
  | ok n w' =>
    cases n <;> simp only [Oper.upon] at h ⊢ <;>
      first
        | exact hk _ _ h
        | exact Calls.mono h (fun e w'' he => by
            cases e with
            | returned v => exact hk _ _ he
            | panicked ch => exact he.elim
            | outgrown => obtain ⟨_, _, hf⟩ := he; exact hf.elim)
        | exact Rows.mono h (fun _ _ he => hk _ _ he)
  | halt x w' => cases x <;> simp only [Oper.upon] at h ⊢ <;> exact h.elim

def dummyOp : Oper := ⟨none, .move (.const (.bool true)), 0, "", #[], none⟩
def elemB (i : Nat) : List Nat → Bool
  | [] => false
  | j :: l => Nat.beq i j || elemB i l
theorem elemB_iff {i : Nat} : ∀ {l : List Nat}, elemB i l = true ↔ i ∈ l
  | [] => by simp [elemB]
  | j :: l => by simp [elemB, elemB_iff (l := l), Nat.beq_eq]
def dumb (sp : List Nat) : Nat → List Oper → List Oper
  | _, [] => []
  | i, o :: l => (match elemB i sp with | true => dummyOp | false => o) :: dumb sp (i + 1) l
theorem dumb_len (sp : List Nat) : ∀ (l : List Oper) (k : Nat), (dumb sp k l).length = l.length
  | [], k => rfl
  | o :: l, k => by simp [dumb, dumb_len sp l]
theorem dumb_get (sp : List Nat) : ∀ (l : List Oper) (k i : Nat) (o : Oper), l[i]? = some o → (dumb sp k l)[i]? = some (match elemB (k + i) sp with | true => dummyOp | false => o)
  | [], k, i, o, h => by simp at h
  | p :: l, k, 0, o, h => by simp at h; subst h; rfl
  | p :: l, k, i + 1, o, h => by
    have := dumb_get sp l (k + 1) i o (by simpa using h)
    rw [show k + 1 + i = k + (i + 1) by omega] at this
    simpa [dumb] using this

theorem q_dummy {c : Ctx} {ops : Array Oper} {R : Act → World → Prop} {rest : List Oper} {E : Env} {H : Hp} (k : KQ c ops R rest E H) : KQ c ops R (dummyOp :: rest) E H := by
  intro a hs
  unfold QL
  rw [if_pos (by rfl)]
  refine ⟨.bool true, fun w hw => ?_, k a hs⟩
  simp [dummyOp, execOp, Act.eval, QUp]

/-- slot t may be looked at by operation i: none writes it, or a quiet one that i waits for -/
def slotOK (l : List Oper) (sp : List Nat) (m i t : Nat) : Bool :=
  (List.range l.length).all fun j => !(((l[j]?).bind (·.dst)) == some t) || (decide (j < i) && m.testBit j && !elemB j sp)
/-- the same for a quiet operation: a special one that waits for it may write the slot -/
def slotQ (l : List Oper) (sp ms : List Nat) (m i t : Nat) : Bool :=
  (List.range l.length).all fun j => !(((l[j]?).bind (·.dst)) == some t) || ((decide (j < i) && m.testBit j && !elemB j sp) || (elemB j sp && (ms.getD j 0).testBit i))
def indepG (l : List Oper) (sp : List Nat) : Bool :=
  let ms := masks l []
  dstsB l [] && (List.range l.length).all fun i =>
    match l[i]? with
    | some o => notSel o && (edgesOn o).all (fun j => decide (j < i)) && (if elemB i sp then o.guard.isNone else (o.looksAt l.toArray).all (slotQ l sp ms (ms.getD i 0) i))
    | none => true
def readyB (l : List Oper) (sp done : List Nat) (i : Nat) : Bool := sp.all fun j => !((masks l []).getD i 0).testBit j || elemB j done
def sput (d : Option Nat) (v : Value) (E : Env) : Env := match d with | some d => (d, v) :: E | none => E

def Tree (c : Ctx) (l : List Oper) (Q : Exit → Act → World → Prop) (sp : List Nat) (Eq : Env) (Hq : Hp) : Nat → List Nat → Env → Hp → Prop
  | 0, _, Es, Hs => K c (Q .normal) (Es ++ Eq) Hs
  | r + 1, done, Es, Hs => ∀ i ∈ sp, elemB i done = false → readyB l sp done i = true → ∃ o Ei, l[i]? = some o ∧ Cov Eq Ei ∧ (Ei.map Prod.fst).all (slotOK l sp ((masks l []).getD i 0) i) = true ∧
      ∀ F, K c (wpList c.P l.toArray (only fun a w => ∃ v H2, (∃ Hr, Rems Hq H2 Hr) ∧ Tree c l Q sp Eq Hq r (i :: done) (sput o.dst v (Es ++ Ei)) H2 ∧ Sat c (sput o.dst v (Es ++ Ei) ++ F) H2 a w) [o]) (Es ++ Ei ++ F) Hs
def RG (c : Ctx) (l : List Oper) (Q : Exit → Act → World → Prop) (sp : List Nat) (Hq H : Hp) (a : Act) (_ : World) : Prop := ∃ Eq, SatE c Eq a ∧ Tree c l Q sp Eq Hq sp.length [] [] H
theorem q_tree {c : Ctx} {ops : Array Oper} {l : List Oper} {Q : Exit → Act → World → Prop} {sp : List Nat} {E : Env} {Hq H : Hp} (h : Tree c l Q sp E Hq sp.length [] [] H) : KQ c ops (RG c l Q sp Hq H) [] E Hq :=
  q_nil fun _ _ hs => ⟨E, hs.e, h⟩

theorem look_append (k : Nat) : ∀ (A B : Env), look (A ++ B) k = match look A k with | some v => some v | none => look B k
  | [], B => rfl
  | (j, u) :: A, B => by
    simp only [List.cons_append, look]
    cases Nat.beq j k with
    | true => rfl
    | false => exact look_append k A B
def fenv (a : Act) : Env := (List.range a.tmps.size).map fun k => (k, a.tmps.getD k undef)
theorem look_map {f : Nat → Value} {k : Nat} : ∀ (l : List Nat), look (l.map fun k => (k, f k)) k = if k ∈ l then some (f k) else none
  | [] => by simp [look]
  | j :: l => by
    simp only [List.map_cons, look]
    cases hb : Nat.beq j k with
    | true =>
      have := Nat.eq_of_beq_eq_true hb
      subst this
      simp
    | false =>
      have e : ¬ k = j := fun e => by subst e; rw [Nat.beq_refl] at hb; cases hb
      simp only [List.mem_cons, e, false_or]
      exact look_map l
theorem look_fenv {a : Act} {k : Nat} : look (fenv a) k = a.tmps[k]? := by
  unfold fenv
  rw [look_map]
  by_cases h : k < a.tmps.size
  · rw [if_pos (List.mem_range.2 h), Array.getD_eq_getD_getElem?, Array.getElem?_eq_getElem h]; rfl
  · rw [if_neg (fun hc => h (List.mem_range.1 hc)), Array.getElem?_eq_none (by omega)]

theorem SatH_rems {c : Ctx} {H H' Hr : Hp} {w : World} (r : Rems H' H Hr) (h : SatH c H w) : SatH c H' w := by
  have p := r.perm
  refine ⟨h.keep, h.rd, fun e he => h.own e (p.mem_iff.2 (List.mem_append_left _ he)), fun e he => h.orig e (p.mem_iff.2 (List.mem_append_left _ he)), ?_⟩
  have := (p.map Prod.fst).nodup_iff.1 h.nodup
  rw [List.map_append] at this
  exact (List.nodup_append.1 this).1

def rest (sp done : List Nat) : Nat := sp.countP fun j => !elemB j done
theorem rest_nil : ∀ sp : List Nat, rest sp [] = sp.length
  | [] => rfl
  | j :: sp => by
    have := rest_nil sp
    unfold rest at *
    simp [elemB, this]
theorem rest_cons {i : Nat} {done : List Nat} (hd : elemB i done = false) : ∀ {sp : List Nat}, sp.Nodup → i ∈ sp → rest sp (i :: done) + 1 = rest sp done
  | [], _, h => by simp at h
  | j :: sp, hn, h => by
    rw [List.nodup_cons] at hn
    have same : ∀ {sp : List Nat}, i ∉ sp → rest sp (i :: done) = rest sp done := by
      intro sp
      induction sp with
      | nil => intro _; rfl
      | cons k sp ih =>
        intro hk
        simp only [List.mem_cons, not_or] at hk
        have := ih hk.2
        unfold rest at *
        have e : elemB k (i :: done) = elemB k done := by
          have : Nat.beq k i = false := by
            cases hb : Nat.beq k i with
            | true => exact absurd (Nat.eq_of_beq_eq_true hb).symm hk.1
            | false => rfl
          simp [elemB, this]
        rw [List.countP_cons, List.countP_cons, this, e]
    rcases List.mem_cons.1 h with rfl | h
    · have := same hn.1
      unfold rest at *
      rw [List.countP_cons, List.countP_cons, this]
      simp [elemB, hd]
    · have ih := rest_cons hd hn.2 h
      have hji : Nat.beq j i = false := by
        cases hb : Nat.beq j i with
        | true => have := Nat.eq_of_beq_eq_true hb; subst this; exact absurd h hn.1
        | false => rfl
      unfold rest at *
      rw [List.countP_cons, List.countP_cons, ← ih]
      simp [elemB, hji]
      omega
theorem rest_zero {sp done : List Nat} (h : ∀ i ∈ sp, elemB i done = true) : rest sp done = 0 := by
  unfold rest
  rw [List.countP_eq_zero]
  intro i hi
  simp [h i hi]
theorem rest_pos {sp done : List Nat} {i : Nat} (h : i ∈ sp) (hd : elemB i done = false) : 0 < rest sp done := by
  unfold rest
  rw [List.countP_pos_iff]
  exact ⟨i, h, by simp [hd]⟩

theorem R_drawG {c : Ctx} {E : Env} {H Hq Hr : Hp} {Q : Exit → Act → World → Prop} {id : Nat} {l : List Oper} (sp : List Nat) (hm : c.P.follows .mixedOrders = true) (hsp : sp.Nodup) (hB : indepG l sp = true) (hrem : Rems Hq H Hr)
    (h : KQ c l.toArray (RG c l Q sp Hq H) (dumb sp 0 l) E Hq) : K c ((Code.region id l.toArray true).wp c.P Q) E H := by
  intro a w hs
  unfold indepG at hB
  simp only [Bool.and_eq_true] at hB
  obtain ⟨hdst, hall⟩ := hB
  have hall' : ∀ i o, l[i]? = some o → notSel o = true ∧ (∀ j ∈ edgesOn o, j < i) ∧ (elemB i sp = true → o.guard = none) ∧ (elemB i sp = false → ∀ t ∈ o.looksAt l.toArray, slotQ l sp (masks l []) ((masks l []).getD i 0) i t = true) := by
    intro i o ho
    have hi := (List.getElem?_eq_some_iff.1 ho).1
    have := (List.all_eq_true.1 hall) i (List.mem_range.2 hi)
    rw [ho] at this
    simp only [Bool.and_eq_true, List.all_eq_true, decide_eq_true_eq] at this
    obtain ⟨⟨h1, h2⟩, h3⟩ := this
    refine ⟨h1, h2, fun hin => ?_, fun hin => ?_⟩
    · rw [if_pos hin] at h3; simpa using h3
    · rw [if_neg (by rw [hin]; simp)] at h3
      exact List.all_eq_true.1 h3
  obtain ⟨_, huniq⟩ := dsts_nodup _ _ hdst
  have hHq : SatH c Hq w := SatH_rems hrem hs.hh
  obtain ⟨st, s0, sR, sS⟩ := QL_trace _ _ (h a hs.e)
  rw [dumb_len] at sR
  obtain ⟨Eq, hEq, hT⟩ := sR w hHq
  have sQ : ∀ i o, elemB i sp = false → l[i]? = some o → ∃ v, st (i + 1) = (st i).put o.dst v ∧ (Region.wanted o (yielded l.toArray (st i).tmps) = true → QAt c o (st i) Hq v) ∧ (Region.wanted o (yielded l.toArray (st i).tmps) = false → v = undef) := by
    intro i o hi ho
    have := dumb_get sp l 0 i o ho
    rw [Nat.zero_add, hi] at this
    exact sS i o this
  have sD : ∀ i o, elemB i sp = true → l[i]? = some o → st (i + 1) = st i := by
    intro i o hi ho
    have := dumb_get sp l 0 i o ho
    rw [Nat.zero_add, hi] at this
    obtain ⟨v, hv, _⟩ := sS i _ this
    rw [hv]; rfl
  have stsize : ∀ i, i ≤ l.length → (st i).tmps.size = a.tmps.size := by
    intro i
    induction i with
    | zero => intro _; rw [s0]
    | succ i ih =>
      intro hi
      cases he : elemB i sp with
      | true => rw [sD i l[i] he (List.getElem?_eq_getElem (by omega))]; exact ih (by omega)
      | false =>
        obtain ⟨v, hv, _⟩ := sQ i l[i] he (List.getElem?_eq_getElem (by omega))
        rw [hv, put_size]; exact ih (by omega)
  have stkeep : ∀ (t i m : Nat), i ≤ m → m ≤ l.length → (∀ j o, i ≤ j → j < m → elemB j sp = false → l[j]? = some o → o.dst ≠ some t) → (st m).tmps[t]? = (st i).tmps[t]? := by
    intro t i m him
    induction m with
    | zero => intro _ _; have : i = 0 := by omega
              subst this; rfl
    | succ m ih =>
      intro hm hno
      by_cases e : i = m + 1
      · subst e; rfl
      · cases he : elemB m sp with
        | true => rw [sD m l[m] he (List.getElem?_eq_getElem (by omega))]; exact ih (by omega) (by omega) (fun j o h1 h2 => hno j o h1 (by omega))
        | false =>
          obtain ⟨v, hv, _⟩ := sQ m l[m] he (List.getElem?_eq_getElem (by omega))
          rw [hv, put_get, if_neg (fun hc => hno m _ (by omega) (by omega) he (List.getElem?_eq_getElem (by omega)) hc.1)]
          exact ih (by omega) (by omega) (fun j o h1 h2 => hno j o h1 (by omega))
  have stwrit : ∀ (j m : Nat) (o : Oper) (t : Nat), j < m → m ≤ l.length → l[j]? = some o → o.dst = some t → (st m).tmps[t]? = (st l.length).tmps[t]? := by
    intro j m o t hjm hmn ho hd
    exact (stkeep t m l.length hmn (Nat.le_refl _) (fun k p h1 h2 _ hp hpd => by
      have := huniq j k o p t ho hp hd hpd
      omega)).symm
  let Down := fun (listed : Array Bool) => ∀ i o, l[i]? = some o → Lst listed i → ∀ j ∈ edgesOn o, Lst listed j
  let Inv := fun (listed : Array Bool) (a' : Act) (w' : World) => listed.size = l.length ∧ Down listed ∧ ∃ done Es Hs,
    (∀ i ∈ sp, i < l.length → (elemB i done = true ↔ Lst listed i)) ∧ Tree c l Q sp Eq Hq (rest sp done) done Es Hs ∧ Sat c Es Hs a' w' ∧ (∃ Hr, Rems Hq Hs Hr) ∧
    (∀ k v, look Es k = some v → ∀ j o, l[j]? = some o → o.dst = some k → Lst listed j) ∧
    (∀ i o d, i ∈ sp → Lst listed i → l[i]? = some o → o.dst = some d → ∃ v, look Es d = some v) ∧
    (∀ i o t, elemB i sp = false → Lst listed i → l[i]? = some o → o.dst = some t → a'.tmps[t]? = (st l.length).tmps[t]?) ∧
    (∀ t, (∀ i o, Lst listed i → l[i]? = some o → o.dst ≠ some t) → a'.tmps[t]? = a.tmps[t]?)
  refine wp_region_any hm ?_
  refine wpAny_inv Inv (fun _ _ _ hi => by simpa using hi.1) ?_ ?_ ?_ _ _ _ _ ?_ ?_
  · intro i o ho j hj
    exact (hall' i o (by simpa using ho)).2.1 j hj
  · intro listed a' w' ⟨hsz, _, done, Es, Hs, hD, hTr, hSat, _, _, hE4, hQv, hU⟩ hl
    have hlst : ∀ i, i < l.length → Lst listed i := fun i hi => hl i (by simpa using hi)
    have hz : ∀ i ∈ sp, i < l.length → elemB i done = true := fun i hi hlt => (hD i hi hlt).2 (hlst i hlt)
    have hfin : Sat c (Es ++ Eq) Hs a' w' := by
      refine ⟨hSat.keep, hSat.rd, fun k v hk => ?_, hSat.size, hSat.nodef, hSat.own, hSat.orig, hSat.nodup⟩
      rw [look_append] at hk
      cases hEs : look Es k with
      | some u => rw [hEs] at hk; simp only [Option.some.injEq] at hk; subst hk; exact hSat.env k u hEs
      | none =>
        rw [hEs] at hk
        simp only [] at hk
        have h1 := hEq.env k v hk
        by_cases hex : ∃ (i : Nat) (o : Oper), l[i]? = some o ∧ o.dst = some k
        · obtain ⟨i, o, ho, hd⟩ := hex
          have hi := (List.getElem?_eq_some_iff.1 ho).1
          cases he : elemB i sp with
          | true =>
            obtain ⟨v', hv'⟩ := hE4 i o k (elemB_iff.1 he) (hlst i hi) ho hd
            rw [hEs] at hv'; cases hv'
          | false => rw [hQv i o k he (hlst i hi) ho hd]; exact h1
        · rw [hU k (fun i o _ ho hd => hex ⟨i, o, ho, hd⟩), ← s0, ← stkeep k 0 l.length (Nat.zero_le _) (Nat.le_refl _) (fun j o _ _ _ ho hd => hex ⟨j, o, ho, hd⟩)]
          exact h1
    by_cases hall2 : ∀ i ∈ sp, elemB i done = true
    · rw [rest_zero hall2] at hTr
      exact hTr a' w' hfin
    · exfalso
      apply hall2
      intro i hi
      by_cases hlt : i < l.length
      · exact hz i hi hlt
      · exfalso
        cases hd : elemB i done with
        | true => exact hall2 (fun k hk => by
            by_cases hkl : k < l.length
            · exact hz k hk hkl
            · cases hkd : elemB k done with
              | true => rfl
              | false =>
                exfalso
                have hp := rest_pos hk hkd
                generalize hr : rest sp done = r at hTr hp
                cases r with
                | zero => omega
                | succ r =>
                  have hrd : readyB l sp done k = true := by
                    unfold readyB
                    rw [List.all_eq_true]
                    intro j _
                    have hml : (masks l []).getD k 0 = 0 := by
                      have hlen : (masks l []).length = l.length := by
                        have : ∀ (l : List Oper) (acc : List Nat), (masks l acc).length = acc.length + l.length := by
                          intro l
                          induction l with
                          | nil => intro acc; simp [masks]
                          | cons o l ih => intro acc; simp [masks, ih]; omega
                        simpa using this l []
                      rw [List.getD_eq_getElem?_getD, List.getElem?_eq_none (by omega)]; rfl
                    rw [hml]; simp
                  obtain ⟨o, Ei, ho, _⟩ := hTr k hk hkd hrd
                  rw [List.getElem?_eq_none (by omega)] at ho
                  cases ho)
        | false =>
          have hp := rest_pos hi hd
          generalize hr : rest sp done = r at hTr hp
          cases r with
          | zero => omega
          | succ r =>
            have hrd : readyB l sp done i = true := by
              unfold readyB
              rw [List.all_eq_true]
              intro j _
              have hml : (masks l []).getD i 0 = 0 := by
                have hlen : (masks l []).length = l.length := by
                  have : ∀ (l : List Oper) (acc : List Nat), (masks l acc).length = acc.length + l.length := by
                    intro l
                    induction l with
                    | nil => intro acc; simp [masks]
                    | cons o l ih => intro acc; simp [masks, ih]; omega
                  simpa using this l []
                rw [List.getD_eq_getElem?_getD, List.getElem?_eq_none (by omega)]; rfl
              rw [hml]; simp
            obtain ⟨o, Ei, ho, _⟩ := hTr i hi hd hrd
            rw [List.getElem?_eq_none (by omega)] at ho
            cases ho
  · intro listed a' w' i ⟨hsz, hdown, done, Es, Hs, hD, hTr, hSat, hHr, hE3, hE4, hQv, hU⟩ hr
    obtain ⟨hi, hif, o, ho, hoe⟩ := ready_spec hr
    have hi' : i < l.length := by simpa using hi
    have ho' : l[i]? = some o := by simpa using ho
    obtain ⟨hsel, _, hgn, hlook⟩ := hall' i o ho'
    have hmask : ∀ j, ((masks l []).getD i 0).testBit j = true → Lst listed j :=
      masks_good l hdown l [] [] rfl rfl (fun i _ j hj => by simp at hj) (fun i o h0 => by simp at h0) i o ho' hoe
    have hset : ∀ k, (listed.setIfInBounds i true)[k]? = if i = k then some true else listed[k]? := by
      intro k
      rw [Array.getElem?_setIfInBounds]
      by_cases h1 : i = k
      · subst h1; rw [if_pos rfl, if_pos rfl, if_pos (by omega)]
      · rw [if_neg h1, if_neg h1]
    have hLmono : ∀ k, Lst listed k → Lst (listed.setIfInBounds i true) k := by
      intro k hk
      unfold Lst
      rw [hset]; split
      · rfl
      · exact hk
    have hLi : Lst (listed.setIfInBounds i true) i := by unfold Lst; rw [hset, if_pos rfl]
    have hLinv : ∀ k, Lst (listed.setIfInBounds i true) k → k = i ∨ Lst listed k := by
      intro k hk
      unfold Lst at hk
      rw [hset] at hk
      split at hk
      · exact .inl (by omega)
      · exact .inr hk
    have hNi : ¬ Lst listed i := fun hc => by unfold Lst at hc; rw [hif] at hc; cases hc
    have hdown' : Down (listed.setIfInBounds i true) := by
      intro k p hp hk j hj
      rcases hLinv k hk with rfl | hk
      · rw [ho'] at hp; simp at hp; subst hp
        exact hLmono _ (hoe j hj)
      · exact hLmono _ (hdown k p hp hk j hj)
    have hsz' : (listed.setIfInBounds i true).size = l.length := by simpa using hsz
    have hasz : a'.tmps.size = a.tmps.size := by rw [hSat.size, hs.size]
    -- slots that i may look at
    have agree : ∀ t, slotOK l sp ((masks l []).getD i 0) i t = true → a'.tmps[t]? = (st l.length).tmps[t]? ∧ (st i).tmps[t]? = (st l.length).tmps[t]? := by
      intro t hok
      unfold slotOK at hok
      by_cases hex : ∃ (j : Nat) (p : Oper), l[j]? = some p ∧ p.dst = some t
      · obtain ⟨j, p, hp, hd⟩ := hex
        have hj := (List.getElem?_eq_some_iff.1 hp).1
        have := (List.all_eq_true.1 hok) j (List.mem_range.2 hj)
        rw [hp] at this
        simp only [Option.bind_some, hd, beq_self_eq_true, Bool.not_true, Bool.false_or, Bool.and_eq_true, decide_eq_true_eq] at this
        obtain ⟨⟨hji, hbit⟩, hq⟩ := this
        have hq' : elemB j sp = false := by simpa using hq
        exact ⟨hQv j p t hq' (hmask j hbit) hp hd, stwrit j i p t hji (by omega) hp hd⟩
      · have e0 : (st l.length).tmps[t]? = a.tmps[t]? := by
          rw [stkeep t 0 l.length (Nat.zero_le _) (Nat.le_refl _) (fun j p _ _ _ hp hd => hex ⟨j, p, hp, hd⟩), s0]
        refine ⟨by rw [hU t (fun k p _ hp hd => hex ⟨k, p, hp, hd⟩), e0], ?_⟩
        rw [e0, stkeep t 0 i (Nat.zero_le _) (by omega) (fun j p _ _ _ hp hd => hex ⟨j, p, hp, hd⟩), s0]
    have agreeQ : ∀ t, slotQ l sp (masks l []) ((masks l []).getD i 0) i t = true → a'.tmps[t]? = (st i).tmps[t]? := by
      intro t hok
      by_cases hex : ∃ (j : Nat) (p : Oper), l[j]? = some p ∧ p.dst = some t
      · obtain ⟨j, p, hp, hd⟩ := hex
        have hj := (List.getElem?_eq_some_iff.1 hp).1
        unfold slotQ at hok
        have := (List.all_eq_true.1 hok) j (List.mem_range.2 hj)
        rw [hp] at this
        simp only [Option.bind_some, hd, beq_self_eq_true, Bool.not_true, Bool.false_or, Bool.or_eq_true, Bool.and_eq_true, decide_eq_true_eq] at this
        rcases this with ⟨⟨hji, hbit⟩, hq⟩ | ⟨hjs, hbit2⟩
        · have hq' : elemB j sp = false := by simpa using hq
          rw [hQv j p t hq' (hmask j hbit) hp hd, stwrit j i p t hji (by omega) hp hd]
        · have hnl : ¬ Lst listed j := fun hl => hNi (masks_good l hdown l [] [] rfl rfl (fun i _ j hj => by simp at hj) (fun i o h0 => by simp at h0) j p hp (fun k hk => hdown j p hp hl k hk) i hbit2)
          rw [hU t (fun k q hk hq hqd => by
              have he := huniq j k p q t hp hq hd hqd
              subst he
              exact hnl hk), stkeep t 0 i (Nat.zero_le _) (by omega) (fun k q _ _ hks hq hqd => by
              have he := huniq j k p q t hp hq hd hqd
              subst he
              rw [hjs] at hks; cases hks), s0]
      · rw [hU t (fun k p _ hp hd => hex ⟨k, p, hp, hd⟩), stkeep t 0 i (Nat.zero_le _) (by omega) (fun j p _ _ _ hp hd => hex ⟨j, p, hp, hd⟩), s0]
    cases hsi : elemB i sp with
    | false =>
      -- one that turns nothing
      obtain ⟨v, sv, sq, su⟩ := sQ i o hsi ho'
      have agr : ∀ t ∈ o.looksAt l.toArray, a'.tmps[t]? = (st i).tmps[t]? := fun t ht => by
        exact agreeQ t (hlook hsi t ht)
      have hexec : execOp a'.eval o = execOp (st i).eval o := by
        refine execOp_congr o (fun cs b hsb => ?_) (fun x hx => eval_agree (fun t htx => agr t ?_))
        · unfold notSel at hsel
          rw [hsb] at hsel; cases hsel
        · subst htx
          exact List.mem_append_left _ (List.mem_filterMap.2 ⟨.tmp t, by simpa using hx, rfl⟩)
      have hyield : ∀ g, o.guard = some g → yielded l.toArray a'.tmps g.1 = yielded l.toArray (st i).tmps g.1 := by
        intro g hg
        unfold yielded
        cases hb : (l.toArray[g.1]?).bind (·.dst) with
        | none => rfl
        | some t =>
          have : t ∈ o.looksAt l.toArray := by
            refine List.mem_append_right _ ?_
            rw [hg]
            obtain ⟨g1, g2⟩ := g
            simp only at hb ⊢
            rw [hb]; simp
          simp only [Option.bind_some]
          rw [agr t this]
      have hwant : Region.wanted o (yielded l.toArray a'.tmps) = Region.wanted o (yielded l.toArray (st i).tmps) := by
        unfold Region.wanted
        cases hg : o.guard with
        | none => rfl
        | some g =>
          have := hyield g hg
          obtain ⟨g1, g2⟩ := g
          simp only at this ⊢
          rw [this]
      have next : ∀ w'', (∀ e ∈ Hs, w''.heap[e.1]? = some e.2) → Keep c.M c.w0 w'' → Inv (listed.setIfInBounds i true) (a'.put o.dst v) w'' := by
        intro w'' hown hkp
        have hes : ∀ k u, look Es k = some u → o.dst ≠ some k := fun k u hk hd => hNi (hE3 k u hk i o ho' hd)
        refine ⟨hsz', hdown', done, Es, Hs, fun k hk hkl => ?_, hTr, ⟨hkp, hSat.rd, fun k u hk => ?_, by rw [put_size]; exact hSat.size, by rw [put_defers]; exact hSat.nodef, hown, hSat.orig, hSat.nodup⟩, hHr, fun k u hk j p hp hd => hLmono _ (hE3 k u hk j p hp hd), fun k p d hk hLk hp hd => ?_, fun k p t hk hLk hp hd => ?_, fun t hno => ?_⟩
        · rw [hD k hk hkl]
          refine ⟨hLmono k, fun hc => ?_⟩
          rcases hLinv k hc with rfl | hc
          · rw [elemB_iff.2 hk] at hsi; cases hsi
          · exact hc
        · rw [put_get, if_neg (fun hc => hes k u hk hc.1)]
          exact hSat.env k u hk
        · rcases hLinv k hLk with rfl | hLk
          · rw [elemB_iff.2 hk] at hsi; cases hsi
          · exact hE4 k p d hk hLk hp hd
        · rw [put_get]
          rcases hLinv k hLk with rfl | hLk2
          · rw [ho'] at hp; simp at hp; subst hp
            rw [← stwrit k (k + 1) o t (by omega) (by omega) ho' hd, sv, put_get, hasz, stsize k (by omega)]
            by_cases hts : t < a.tmps.size
            · rw [if_pos ⟨hd, hts⟩, if_pos ⟨hd, hts⟩]
            · have hle : a.tmps.size ≤ t := Nat.le_of_not_lt hts
              rw [if_neg (fun hc => hts hc.2), if_neg (fun hc => hts hc.2)]
              have e1 : a'.tmps[t]? = none := Array.getElem?_eq_none (by rw [hasz]; exact hle)
              have e2 : (st k).tmps[t]? = none := Array.getElem?_eq_none (by rw [stsize k (by omega)]; exact hle)
              rw [e1, e2]
          · rw [if_neg (fun hc => by
              have := huniq k i p o t hp ho' hd hc.1
              subst this
              exact hNi hLk2)]
            exact hQv k p t hk hLk2 hp hd
        · rw [put_get, if_neg (fun hc => hno i o hLi ho' hc.1)]
          exact hU t (fun k p hLk hp => hno k p (hLmono k hLk) hp)
      unfold wpOp
      rw [ho]
      simp only []
      obtain ⟨Hr2, hHr2⟩ := hHr
      have hq2 : SatH c Hq w' := SatH_rems hHr2 hSat.hh
      cases hwv : Region.wanted o (yielded l.toArray a'.tmps) with
      | true =>
        rw [if_pos rfl]
        left
        have hq := sq (by rw [← hwant]; exact hwv) w' hq2
        unfold Oper.wp
        rw [hexec]
        generalize (execOp (st i).eval o).run c.P w' = r at hq
        cases r with
        | halt x w2 => exact hq.elim
        | ok x w2 =>
          cases x with
          | value u =>
            obtain ⟨rfl, rfl⟩ := hq
            rw [Oper.upon_value]
            exact next _ hSat.own hSat.keep
          | enter f args =>
            obtain ⟨rfl, hcall⟩ := hq
            rw [Oper.upon_enter]
            refine hcall.mono ?_
            rintro e w3 ⟨rfl, hk⟩
            have := hSat.hh.world hk
            exact next _ this.own this.keep
          | _ => exact hq.elim
      | false =>
        rw [if_neg (by simp)]
        have := su (by rw [← hwant]; exact hwv)
        subst this
        exact next _ hSat.own hSat.keep
    | true =>
      have hisp : i ∈ sp := elemB_iff.1 hsi
      have hnd : elemB i done = false := by
        cases hc : elemB i done with
        | true => exact absurd ((hD i hisp hi').1 hc) hNi
        | false => rfl
      have hrd : readyB l sp done i = true := by
        unfold readyB
        rw [List.all_eq_true]
        intro j hj
        cases hb : ((masks l []).getD i 0).testBit j with
        | false => rfl
        | true =>
          have hLj := hmask j hb
          have hjl : j < l.length := by
            unfold Lst at hLj
            have := getElem?_lt hLj
            omega
          rw [(hD j hj hjl).2 hLj]; rfl
      have hp := rest_pos hisp hnd
      have hrc := rest_cons hnd hsp hisp
      rw [← hrc] at hTr
      obtain ⟨o2, Ei, ho2, hcov, hkeys, hstep⟩ := hTr i hisp hnd hrd
      rw [ho'] at ho2
      simp only [Option.some.injEq] at ho2
      subst ho2
      have hEi : ∀ k u, look Ei k = some u → a'.tmps[k]? = some u := by
        intro k u hk
        have h1 := hEq.env k u (hcov.look k u hk)
        have hmem : k ∈ Ei.map Prod.fst := by
          have : ∀ (A : Env), look A k = some u → k ∈ A.map Prod.fst := by
            intro A
            induction A with
            | nil => intro h; simp [look] at h
            | cons x A ih =>
              obtain ⟨j, y⟩ := x
              intro h
              simp only [look] at h
              cases hb : Nat.beq j k with
              | true => have := Nat.eq_of_beq_eq_true hb; subst this; simp
              | false => rw [hb] at h; simp only [List.map_cons, List.mem_cons]; exact .inr (ih (by simpa using h))
          exact this Ei hk
        rw [(agree k ((List.all_eq_true.1 hkeys) k hmem)).1]
        exact h1
      have hsat2 : Sat c (Es ++ Ei ++ fenv a') Hs a' w' := by
        refine ⟨hSat.keep, hSat.rd, fun k v hk => ?_, hSat.size, hSat.nodef, hSat.own, hSat.orig, hSat.nodup⟩
        rw [look_append, look_append] at hk
        cases h1 : look Es k with
        | some u => rw [h1] at hk; simp only [Option.some.injEq] at hk; subst hk; exact hSat.env k u h1
        | none =>
          rw [h1] at hk
          cases h2 : look Ei k with
          | some u => rw [h2] at hk; simp only [Option.some.injEq] at hk; subst hk; exact hEi k u h2
          | none => rw [h2] at hk; simp only [look_fenv] at hk; exact hk
      have hw := hstep (fenv a') a' w' hsat2
      have hwant : Region.wanted o (yielded l.toArray a'.tmps) = true := by
        unfold Region.wanted; rw [hgn hsi]
      unfold wpList at hw
      rw [if_pos hwant] at hw
      unfold wpOp
      rw [ho]
      simp only []
      rw [if_pos hwant]
      left
      refine wp_only (hw.resolve_right (fun hc => by obtain ⟨_, _, _, hf⟩ := hc; exact hf)) ?_
      rintro a2 w2 ⟨v, H2, hH2, hT2, hS2⟩
      have same : ∀ t, o.dst ≠ some t → a2.tmps[t]? = a'.tmps[t]? := by
        intro t ht
        by_cases hts : t < a'.tmps.size
        · have hx : ∃ u, look (Es ++ Ei ++ fenv a') t = some u := by
            rw [look_append]
            cases hz : look (Es ++ Ei) t with
            | some u => exact ⟨u, rfl⟩
            | none => simp only [look_fenv]; rw [Array.getElem?_eq_getElem hts]; exact ⟨_, rfl⟩
          obtain ⟨u, hu⟩ := hx
          rw [hsat2.env t u hu]
          refine hS2.env t u ?_
          cases hd : o.dst with
          | none => exact hu
          | some d =>
            have hne : Nat.beq d t = false := by
              cases hb : Nat.beq d t with
              | true => have := Nat.eq_of_beq_eq_true hb; subst this; exact absurd hd ht
              | false => rfl
            show look ((d, v) :: (Es ++ Ei ++ fenv a')) t = some u
            simp only [look, hne]
            exact hu
        · have hle := Nat.le_of_not_lt hts
          rw [Array.getElem?_eq_none (by rw [hS2.size, ← hSat.size]; exact hle), Array.getElem?_eq_none hle]
      have hS3 : Sat c (sput o.dst v (Es ++ Ei)) H2 a2 w2 := by
        refine ⟨hS2.keep, hS2.rd, fun k u hk => hS2.env k u ?_, hS2.size, hS2.nodef, hS2.own, hS2.orig, hS2.nodup⟩
        rw [look_append, hk]
      refine ⟨hsz', hdown', i :: done, sput o.dst v (Es ++ Ei), H2, fun k hk hkl => ?_, hT2, hS3, hH2, fun k u hk j p hp hd => ?_, fun k p d hk hLk hp hd => ?_, fun k p t hk hLk hp hd => ?_, fun t hno => ?_⟩
      · constructor
        · intro hc
          simp only [elemB, Bool.or_eq_true] at hc
          rcases hc with hc | hc
          · have := Nat.eq_of_beq_eq_true hc; subst this; exact hLi
          · exact hLmono k ((hD k hk hkl).1 hc)
        · intro hc
          rcases hLinv k hc with rfl | hc
          · simp [elemB]
          · simp only [elemB, Bool.or_eq_true]; exact .inr ((hD k hk hkl).2 hc)
      · have cas : o.dst = some k ∨ look (Es ++ Ei) k = some u := by
          cases hod : o.dst with
          | none => rw [hod] at hk; exact .inr hk
          | some d =>
            rw [hod] at hk
            simp only [sput, look] at hk
            cases hb : Nat.beq d k with
            | true => have := Nat.eq_of_beq_eq_true hb; subst this; exact .inl rfl
            | false => rw [hb] at hk; exact .inr (by simpa using hk)
        rcases cas with hod | hlk
        · have := huniq j i p o k hp ho' hd hod
          subst this
          exact hLi
        · rw [look_append] at hlk
          cases h1 : look Es k with
          | some u2 => exact hLmono _ (hE3 k u2 h1 j p hp hd)
          | none =>
            rw [h1] at hlk
            simp only [] at hlk
            have hmem : k ∈ Ei.map Prod.fst := by
              have : ∀ (A : Env), look A k = some u → k ∈ A.map Prod.fst := by
                intro A
                induction A with
                | nil => intro h; simp [look] at h
                | cons x A ih =>
                  obtain ⟨j, y⟩ := x
                  intro h
                  simp only [look] at h
                  cases hb : Nat.beq j k with
                  | true => have := Nat.eq_of_beq_eq_true hb; subst this; simp
                  | false => rw [hb] at h; simp only [List.map_cons, List.mem_cons]; exact .inr (ih (by simpa using h))
              exact this Ei hlk
            have hok := (List.all_eq_true.1 hkeys) k hmem
            unfold slotOK at hok
            have hj := (List.getElem?_eq_some_iff.1 hp).1
            have := (List.all_eq_true.1 hok) j (List.mem_range.2 hj)
            rw [hp] at this
            simp only [Option.bind_some, hd, beq_self_eq_true, Bool.not_true, Bool.false_or, Bool.and_eq_true, decide_eq_true_eq] at this
            exact hLmono _ (hmask j this.1.2)
      · rcases hLinv k hLk with rfl | hLk
        · rw [ho'] at hp; simp at hp; subst hp
          rw [hd]
          exact ⟨v, by simp [sput, look]⟩
        · obtain ⟨v2, hv2⟩ := hE4 k p d hk hLk hp hd
          cases hod : o.dst with
          | none => exact ⟨v2, by simp only [sput]; rw [look_append, hv2]⟩
          | some d2 =>
            simp only [sput, look]
            cases Nat.beq d2 d with
            | true => exact ⟨_, rfl⟩
            | false => exact ⟨v2, by rw [show (bif false then some v else look (Es ++ Ei) d) = look (Es ++ Ei) d from rfl, look_append, hv2]⟩
      · rcases hLinv k hLk with rfl | hLk2
        · rw [hsi] at hk; cases hk
        · rw [same t (fun hod => by
            have := huniq k i p o t hp ho' hd hod
            subst this
            exact hNi hLk2)]
          exact hQv k p t hk hLk2 hp hd
      · rw [same t (fun hod => hno i o hLi ho' hod)]
        exact hU t (fun k p hLk hp => hno k p (hLmono k hLk) hp)
  · unfold cnt; simp
  · refine ⟨by simp, ?_, [], [], H, fun i hi hlt => ?_, by rw [rest_nil]; exact hT, ?_, ⟨Hr, hrem⟩, fun k v hk => by simp [look] at hk, fun i o d hi hL => ?_, fun i o t _ hL => ?_, fun t _ => rfl⟩
    · intro i o ho hi
      unfold Lst at hi
      rw [Array.getElem?_replicate] at hi
      split at hi <;> simp at hi
    · constructor
      · intro hc; simp [elemB] at hc
      · intro hc
        unfold Lst at hc
        rw [Array.getElem?_replicate] at hc
        split at hc <;> simp at hc
    · have hh := hs.hh.world (w' := { w with drawn := w.drawn + 1 }) ⟨rfl, rfl, rfl, Nat.le_refl _, fun _ _ _ => rfl⟩
      exact ⟨hh.keep, hh.rd, fun k v hk => by simp [look] at hk, hs.size, hs.nodef, hh.own, hh.orig, hh.nodup⟩
    · unfold Lst at hL
      rw [Array.getElem?_replicate] at hL
      split at hL <;> simp at hL
    · unfold Lst at hL
      rw [Array.getElem?_replicate] at hL
      split at hL <;> simp at hL

theorem Rems.all : ∀ {H : Hp}, Rems H H []
  | [] => .z
  | _ :: _ => .s .z Rems.all

section tree
variable {c : Ctx} {l : List Oper} {Q : Exit → Act → World → Prop} {sp : List Nat} {Eq : Env} {Hq : Hp} {r : Nat} {done : List Nat} {Es : Env} {Hs : Hp}
def TreeOne (c : Ctx) (l : List Oper) (Q : Exit → Act → World → Prop) (sp : List Nat) (Eq : Env) (Hq : Hp) (r : Nat) (done : List Nat) (Es : Env) (Hs : Hp) (i : Nat) : Prop :=
  elemB i done = false → readyB l sp done i = true → ∃ o Ei, l[i]? = some o ∧ Cov Eq Ei ∧ (Ei.map Prod.fst).all (slotOK l sp ((masks l []).getD i 0) i) = true ∧
      ∀ F, K c (wpList c.P l.toArray (only fun a w => ∃ v H2, (∃ Hr, Rems Hq H2 Hr) ∧ Tree c l Q sp Eq Hq r (i :: done) (sput o.dst v (Es ++ Ei)) H2 ∧ Sat c (sput o.dst v (Es ++ Ei) ++ F) H2 a w) [o]) (Es ++ Ei ++ F) Hs
def TreeAll (c : Ctx) (l : List Oper) (Q : Exit → Act → World → Prop) (sp : List Nat) (Eq : Env) (Hq : Hp) (r : Nat) (done : List Nat) (Es : Env) (Hs : Hp) : List Nat → Prop
  | [] => True
  | i :: is => TreeOne c l Q sp Eq Hq r done Es Hs i ∧ TreeAll c l Q sp Eq Hq r done Es Hs is
theorem TreeAll.one : ∀ {is : List Nat}, TreeAll c l Q sp Eq Hq r done Es Hs is → ∀ i ∈ is, TreeOne c l Q sp Eq Hq r done Es Hs i
  | [], _, i, hi => by simp at hi
  | j :: is, h, i, hi => by
    rcases List.mem_cons.1 hi with rfl | hi
    · exact h.1
    · exact TreeAll.one h.2 i hi
theorem tree_step (h : TreeAll c l Q sp Eq Hq r done Es Hs sp) : Tree c l Q sp Eq Hq (r + 1) done Es Hs := fun i hi => h.one i hi
theorem ta_done {i : Nat} {is : List Nat} (h : elemB i done = true) (k : TreeAll c l Q sp Eq Hq r done Es Hs is) : TreeAll c l Q sp Eq Hq r done Es Hs (i :: is) :=
  ⟨fun h2 => by (rw [h] at h2; cases h2), k⟩
theorem ta_wait {i : Nat} {is : List Nat} (h : readyB l sp done i = false) (k : TreeAll c l Q sp Eq Hq r done Es Hs is) : TreeAll c l Q sp Eq Hq r done Es Hs (i :: is) :=
  ⟨fun _ h2 => by (rw [h] at h2; cases h2), k⟩
theorem ta_go {i : Nat} {is : List Nat} {o : Oper} (Ei : Env) (ks : List Nat) (ho : l[i]? = some o) (hc : Cov Eq Ei) (hm : Ei.map Prod.fst = ks) (hk : ks.all (slotOK l sp ((masks l []).getD i 0) i) = true)
    (h : ∀ F, K c (wpList c.P l.toArray (only fun a w => ∃ v H2, (∃ Hr, Rems Hq H2 Hr) ∧ Tree c l Q sp Eq Hq r (i :: done) (sput o.dst v (Es ++ Ei)) H2 ∧ Sat c (sput o.dst v (Es ++ Ei) ++ F) H2 a w) [o]) (Es ++ Ei ++ F) Hs)
    (k : TreeAll c l Q sp Eq Hq r done Es Hs is) : TreeAll c l Q sp Eq Hq r done Es Hs (i :: is) :=
  ⟨fun _ _ => ⟨o, Ei, ho, hc, by rw [hm]; exact hk, h⟩, k⟩
theorem ta_nil : TreeAll c l Q sp Eq Hq r done Es Hs [] := trivial
theorem tree_end {ops : Array Oper} {P : Program} {d : Nat} {v : Value} {i : Nat} {Ei F E : Env} {H2 Hr : Hp} (hE : E = (d, v) :: (Es ++ Ei ++ F)) (hr : Rems Hq H2 Hr) (hT : Tree c l Q sp Eq Hq r (i :: done) ((d, v) :: (Es ++ Ei)) H2) :
    K c (wpList P ops (only fun a w => ∃ v H2, (∃ Hr, Rems Hq H2 Hr) ∧ Tree c l Q sp Eq Hq r (i :: done) (sput (some d) v (Es ++ Ei)) H2 ∧ Sat c (sput (some d) v (Es ++ Ei) ++ F) H2 a w) []) E H2 :=
  fun a w hs => ⟨v, H2, ⟨Hr, hr⟩, hT, by subst hE; exact hs⟩
theorem tree_end0 {ops : Array Oper} {P : Program} {i : Nat} {Ei F E : Env} {H2 Hr : Hp} (hE : E = Es ++ Ei ++ F) (hr : Rems Hq H2 Hr) (hT : Tree c l Q sp Eq Hq r (i :: done) (Es ++ Ei) H2) :
    K c (wpList P ops (only fun a w => ∃ v H2, (∃ Hr, Rems Hq H2 Hr) ∧ Tree c l Q sp Eq Hq r (i :: done) (sput none v (Es ++ Ei)) H2 ∧ Sat c (sput none v (Es ++ Ei) ++ F) H2 a w) []) E H2 :=
  fun a w hs => ⟨.bool true, H2, ⟨Hr, hr⟩, hT, by subst hE; exact hs⟩
theorem tree_zero (h : K c (Q .normal) (Es ++ Eq) Hs) : Tree c l Q sp Eq Hq 0 done Es Hs := h
end tree
end Go.Sl
