/- Regions whose order is open, walked in phases: quiet operations in any order, then one that turns something, then quiet ones again. -/
import Derived.Test.YtlkpkenbfaiinaaSlT
namespace Go.Sl

def lstN (len n : Nat) : Array Bool := ((List.range len).map fun i => decide (i < n)).toArray
theorem lstN_size {len n : Nat} : (lstN len n).size = len := by simp [lstN]
theorem lstN_get {len n i : Nat} : (lstN len n)[i]? = if i < len then some (decide (i < n)) else none := by
  unfold lstN
  rw [List.getElem?_toArray, List.getElem?_map]
  by_cases h : i < len
  · rw [if_pos h, List.getElem?_range h]; rfl
  · rw [if_neg h, List.getElem?_eq_none (by simp; omega)]; rfl
theorem lstN_lst {len n i : Nat} : Lst (lstN len n) i ↔ i < len ∧ i < n := by
  unfold Lst
  rw [lstN_get]
  by_cases h : i < len
  · rw [if_pos h]; simp [h]
  · rw [if_neg h]; simp [h]

/-- the region with its first n operations done -/
def KD (c : Ctx) (l : List Oper) (Q : Exit → Act → World → Prop) (n : Nat) (a : Act) (w : World) : Prop := wpAny c.P .any l.toArray Q (cnt (lstN l.length n)) (lstN l.length n) a w

section
variable {c : Ctx} {E : Env} {H : Hp} {Q : Exit → Act → World → Prop} {id : Nat} {l : List Oper}

theorem R_dr0 (hm : c.P.follows .mixedOrders = true) (h : K c (KD c l Q 0) E H) : K c ((Code.region id l.toArray true).wp c.P Q) E H := by
  intro a w hs
  refine wp_region_any hm ?_
  have e : lstN l.length 0 = Array.replicate l.toArray.size false := by
    apply Array.ext_getElem?
    intro i
    rw [lstN_get, Array.getElem?_replicate]
    simp
  have hh := hs.hh.world (w' := { w with drawn := w.drawn + 1 }) ⟨rfl, rfl, rfl, Nat.le_refl _, fun _ _ _ => rfl⟩
  have := h a _ (hs.e.sat hh)
  unfold KD at this
  rw [e] at this
  have e2 : cnt (Array.replicate l.toArray.size false) = l.toArray.size := by unfold cnt; simp
  rw [e2] at this
  exact this

theorem wpAny_nil {n : Nat} {a : Act} {w : World} (hr : Region.ready .any l.toArray (lstN l.length n) = []) (h : Q .normal a w) : KD c l Q n a w := by
  unfold KD
  cases cnt (lstN l.length n) with
  | zero => exact ⟨hr, h⟩
  | succ k => exact ⟨fun _ => h, fun i hi => by rw [hr] at hi; cases hi⟩
theorem R_drz {n : Nat} (hr : Region.ready .any l.toArray (lstN l.length n) = []) (h : K c (Q .normal) E H) : K c (KD c l Q n) E H :=
  fun a w hs => wpAny_nil hr (h a w hs)

theorem cnt_lstN {len n : Nat} (h : n < len) : cnt (lstN len n) = cnt (lstN len (n + 1)) + 1 ∧ (lstN len n).setIfInBounds n true = lstN len (n + 1) := by
  have e : (lstN len n).setIfInBounds n true = lstN len (n + 1) := by
    apply Array.ext_getElem?
    intro i
    rw [Array.getElem?_setIfInBounds, lstN_get, lstN_get, lstN_size]
    by_cases h1 : n = i
    · subst h1; rw [if_pos rfl, if_pos h, if_pos h]; simp
    · rw [if_neg h1]
      by_cases h2 : i < len
      · rw [if_pos h2, if_pos h2]
        by_cases h3 : i < n
        · have : i < n + 1 := by omega
          simp [h3, this]
        · have : ¬ i < n + 1 := by omega
          simp [h3, this]
      · rw [if_neg h2, if_neg h2]
  refine ⟨?_, e⟩
  have h0 : (lstN len n).toList[n]? = some false := by
    have := lstN_get (len := len) (n := n) (i := n)
    rw [if_pos h] at this
    simpa using this
  have := count_set _ _ h0
  unfold cnt
  rw [← e, Array.toList_setIfInBounds]
  omega

/-- one operation that all others wait for -/
theorem R_drs {n : Nat} {o : Oper} (hr : Region.ready .any l.toArray (lstN l.length n) = [n]) (ho : l[n]? = some o) (h : K c (wpList c.P l.toArray (only (KD c l Q (n + 1))) [o]) E H) : K c (KD c l Q n) E H := by
  intro a w hs
  have hlt := (List.getElem?_eq_some_iff.1 ho).1
  obtain ⟨e1, e2⟩ := cnt_lstN hlt
  unfold KD
  rw [e1]
  refine ⟨fun h0 => by (rw [hr] at h0; cases h0), fun i hi => ?_⟩
  rw [hr, List.mem_singleton] at hi
  subst hi
  rw [e2]
  have hw := h a w hs
  unfold wpList at hw
  unfold wpOp
  rw [List.getElem?_toArray, ho]
  simp only []
  split
  · rename_i hwt
    rw [if_pos hwt] at hw
    left
    exact wp_only (hw.resolve_right (fun hc => by obtain ⟨_, _, _, hf⟩ := hc; exact hf)) (fun a w h => h)
  · rename_i hwt
    rw [if_neg hwt] at hw
    exact hw

/-- head operation i of those from n0 on looks only at slots that no head writes, or one that it waits for -/
def lookR (ops : Array Oper) (n0 n : Nat) (m i : Nat) (o : Oper) : Bool :=
  (o.looksAt ops).all fun t => (List.range n).all fun j => !(decide (n0 ≤ j) && ((ops[j]?).bind (·.dst)) == some t) || (decide (j < i) && m.testBit j)
def indepR (l : List Oper) (n0 n : Nat) : Bool :=
  let ms := masks l []
  decide (n0 ≤ n) && decide (n ≤ l.length) && dstsB ((l.take n).drop n0) [] && (List.range l.length).all fun i =>
    match l[i]? with
    | some o => notSel o && (edgesOn o).all (fun j => decide (j < i)) &&
        (if i < n0 then true else if i < n then lookR l.toArray n0 n (ms.getD i 0) i o else (List.range n).all fun j => (ms.getD i 0).testBit j)
    | none => true

theorem wpAny_stop {P : Program} {ops : Array Oper} (Inv : Array Bool → Act → World → Prop) (Stop : Array Bool → Prop)
    (hstop : ∀ listed a w, Inv listed a w → Stop listed → wpAny P .any ops Q (cnt listed) listed a w)
    (hgo : ∀ listed a w, Inv listed a w → ¬ Stop listed → Region.ready .any ops listed ≠ [])
    (hstep : ∀ listed a w i, Inv listed a w → ¬ Stop listed → i ∈ Region.ready .any ops listed → wpOp P ops Q i (fun a' w' => Inv (listed.setIfInBounds i true) a' w') a w) :
    ∀ (fuel : Nat) (listed : Array Bool) (a : Act) (w : World), cnt listed = fuel → Inv listed a w → wpAny P .any ops Q fuel listed a w := by
  intro fuel
  induction fuel with
  | zero =>
    intro listed a w hc hinv
    by_cases hs : Stop listed
    · have := hstop _ _ _ hinv hs; rwa [hc] at this
    · exfalso
      obtain ⟨i, hi⟩ := List.exists_mem_of_ne_nil _ (hgo _ _ _ hinv hs)
      obtain ⟨h1, h2, _⟩ := ready_spec hi
      have : false ∈ listed.toList := List.mem_of_getElem? (i := i) (by simpa using h2)
      have := List.count_pos_iff.2 this
      unfold cnt at hc
      omega
  | succ fuel ih =>
    intro listed a w hc hinv
    by_cases hs : Stop listed
    · have := hstop _ _ _ hinv hs; rwa [hc] at this
    · refine ⟨fun hr => absurd hr (hgo _ _ _ hinv hs), fun i hi => ?_⟩
      refine wpOp_mono (fun a' w' h => ih _ a' w' ?_ h) (hstep _ _ _ i hinv hs hi)
      obtain ⟨h1, h2, _⟩ := ready_spec hi
      have := count_set listed.toList i (by simpa using h2)
      unfold cnt at *
      rw [Array.toList_setIfInBounds]
      omega

theorem R_drq (n0 n : Nat) (hB : indepR l n0 n = true) (h : KQ c l.toArray (KD c l Q n) ((l.take n).drop n0) E H) : K c (KD c l Q n0) E H := by
  intro a w hs
  unfold indepR at hB
  simp only [Bool.and_eq_true, decide_eq_true_eq] at hB
  obtain ⟨⟨⟨hn0, hnl⟩, hdst⟩, hall⟩ := hB
  have hall' : ∀ i o, l[i]? = some o → notSel o = true ∧ (∀ j ∈ edgesOn o, j < i) ∧ (n0 ≤ i → i < n → lookR l.toArray n0 n ((masks l []).getD i 0) i o = true) ∧ (n ≤ i → ∀ j, j < n → ((masks l []).getD i 0).testBit j = true) := by
    intro i o ho
    have hi := (List.getElem?_eq_some_iff.1 ho).1
    have := (List.all_eq_true.1 hall) i (List.mem_range.2 hi)
    rw [ho] at this
    simp only [Bool.and_eq_true, List.all_eq_true, decide_eq_true_eq] at this
    obtain ⟨⟨h1, h2⟩, h3⟩ := this
    refine ⟨h1, h2, fun hi0 hin => ?_, fun hin j hj => ?_⟩
    · rw [if_neg (by omega), if_pos hin] at h3; exact h3
    · rw [if_neg (by omega), if_neg (by omega)] at h3
      exact (List.all_eq_true.1 h3) j (List.mem_range.2 hj)
  obtain ⟨_, huniq⟩ := dsts_nodup _ _ hdst
  obtain ⟨st0, s00, sR0, sS0⟩ := QL_trace _ _ (h a hs.e)
  have htl : ((l.take n).drop n0).length = n - n0 := by simp; omega
  rw [htl] at sR0
  have hget : ∀ i o, n0 ≤ i → i < n → l[i]? = some o → ((l.take n).drop n0)[i - n0]? = some o := by
    intro i o h1 h2 ho
    rw [List.getElem?_drop, show n0 + (i - n0) = i by omega, List.getElem?_take, if_pos h2]; exact ho
  generalize hst : (fun i => st0 (i - n0)) = st
  have s0 : st n0 = a := by rw [← hst]; simp [s00]
  have sR : ∀ w, SatH c H w → KD c l Q n (st n) w := by rw [← hst]; exact sR0
  have sS' : ∀ i o, n0 ≤ i → i < n → l[i]? = some o → ∃ v, st (i + 1) = (st i).put o.dst v ∧ (Region.wanted o (yielded l.toArray (st i).tmps) = true → QAt c o (st i) H v) ∧ (Region.wanted o (yielded l.toArray (st i).tmps) = false → v = undef) := by
    intro i o h1 h2 ho
    have := sS0 (i - n0) o (hget i o h1 h2 ho)
    rw [← hst]
    simp only []
    rw [show i + 1 - n0 = i - n0 + 1 by omega]
    exact this
  have huniq' : ∀ (i j : Nat) (o p : Oper) (d : Nat), n0 ≤ i → i < n → n0 ≤ j → j < n → l[i]? = some o → l[j]? = some p → o.dst = some d → p.dst = some d → i = j := by
    intro i j o p d hi0 hi hj0 hj ho hp hd hpd
    have := huniq (i - n0) (j - n0) o p d (hget i o hi0 hi ho) (hget j p hj0 hj hp) hd hpd
    omega
  have stsize : ∀ i, n0 ≤ i → i ≤ n → (st i).tmps.size = a.tmps.size ∧ (st i).defers = a.defers := by
    intro i
    induction i with
    | zero => intro h0 _; have : n0 = 0 := by omega
              subst this; rw [s0]; exact ⟨rfl, rfl⟩
    | succ i ih =>
      intro h0 hi
      by_cases e : n0 = i + 1
      · subst e; rw [s0]; exact ⟨rfl, rfl⟩
      · obtain ⟨v, hv, _⟩ := sS' i l[i] (by omega) (by omega) (List.getElem?_eq_getElem (by omega))
        obtain ⟨i1, i2⟩ := ih (by omega) (by omega)
        rw [hv, put_size, put_defers]; exact ⟨i1, i2⟩
  have stkeep : ∀ (t i m : Nat), n0 ≤ i → i ≤ m → m ≤ n → (∀ j o, i ≤ j → j < m → l[j]? = some o → o.dst ≠ some t) → (st m).tmps[t]? = (st i).tmps[t]? := by
    intro t i m hi0 him
    induction m with
    | zero => intro _ _; have : i = 0 := by omega
              subst this; rfl
    | succ m ih =>
      intro hm hno
      by_cases e : i = m + 1
      · subst e; rfl
      · obtain ⟨v, hv, _⟩ := sS' m l[m] (by omega) (by omega) (List.getElem?_eq_getElem (by omega))
        rw [hv, put_get, if_neg (fun hc => hno m _ (by omega) (by omega) (List.getElem?_eq_getElem (by omega)) hc.1)]
        exact ih (by omega) (by omega) (fun j o h1 h2 => hno j o h1 (by omega))
  have stwrit : ∀ (j m : Nat) (o : Oper) (t : Nat), n0 ≤ j → j < m → m ≤ n → l[j]? = some o → o.dst = some t → (st m).tmps[t]? = (st n).tmps[t]? := by
    intro j m o t hj0 hjm hmn ho hd
    exact (stkeep t m n (by omega) hmn (Nat.le_refl _) (fun k p h1 h2 hp hpd => by
      have := huniq' j k o p t hj0 (by omega) (by omega) h2 ho hp hd hpd
      omega)).symm
  let Down := fun (listed : Array Bool) => ∀ i o, l[i]? = some o → Lst listed i → ∀ j ∈ edgesOn o, Lst listed j
  let Inv := fun (listed : Array Bool) (a' : Act) (w' : World) => listed.size = l.length ∧ Down listed ∧ (∀ i, n ≤ i → i < l.length → listed[i]? = some false) ∧ (∀ i, i < n0 → Lst listed i) ∧ SatH c H w' ∧ a'.tmps.size = a.tmps.size ∧ a'.defers = a.defers ∧
    (∀ i o t, n0 ≤ i → i < n → Lst listed i → l[i]? = some o → o.dst = some t → a'.tmps[t]? = (st n).tmps[t]?) ∧
    (∀ t, (∀ i o, n0 ≤ i → i < n → Lst listed i → l[i]? = some o → o.dst ≠ some t) → a'.tmps[t]? = a.tmps[t]?)
  let Stop := fun (listed : Array Bool) => ∀ i, i < n → Lst listed i
  refine wpAny_stop Inv Stop ?_ ?_ ?_ _ _ _ _ rfl ?_
  · intro listed a' w' ⟨hsz, _, h1, _, h2, h3, h4, h5, h6⟩ hl
    have hls : listed = lstN l.length n := by
      apply Array.ext_getElem?
      intro i
      rw [lstN_get]
      by_cases hi : i < l.length
      · rw [if_pos hi]
        by_cases hin : i < n
        · have := hl i hin
          unfold Lst at this
          rw [this]; simp [hin]
        · rw [h1 i (by omega) hi]; simp [hin]
      · rw [if_neg hi, Array.getElem?_eq_none (by omega)]
    have hst' : a' = st n := by
      obtain ⟨z1, z2⟩ := stsize n hn0 (Nat.le_refl _)
      have ht : a'.tmps = (st n).tmps := by
        apply Array.ext_getElem?
        intro t
        by_cases hex : ∃ (i : Nat) (o : Oper), n0 ≤ i ∧ i < n ∧ l[i]? = some o ∧ o.dst = some t
        · obtain ⟨i, o, hi0, hi, ho, hd⟩ := hex
          exact h5 i o t hi0 hi (hl i hi) ho hd
        · rw [h6 t (fun i o hi0 hi _ ho hd => hex ⟨i, o, hi0, hi, ho, hd⟩), stkeep t n0 n (Nat.le_refl _) hn0 (Nat.le_refl _) (fun j o hj0 hj ho hd => hex ⟨j, o, hj0, hj, ho, hd⟩), s0]
      cases a'
      cases hst2 : st n
      rw [hst2] at ht z2
      simp only at ht z2 h4
      simp [ht, h4, z2]
    rw [hls, hst']
    exact sR w' h2
  · intro listed a' w' ⟨hsz, _, h1, hn0l, _⟩ hns hr
    apply hns
    intro i
    induction i using Nat.strongRecOn with
    | _ i ih =>
      intro hi
      have hlt : i < listed.size := by omega
      cases hb : listed[i] with
      | true => unfold Lst; rw [Array.getElem?_eq_getElem hlt, hb]
      | false =>
        exfalso
        have hil : i < l.length := by omega
        have := ready_of (ops := l.toArray) (listed := listed) (o := l[i]) (by simpa using hil) (by rw [Array.getElem?_eq_getElem hlt, hb]) (by simp [hil]) (fun j hj => by
          have hji := (hall' i l[i] (List.getElem?_eq_getElem hil)).2.1 j hj
          exact ih j hji (by omega))
        rw [hr] at this; cases this
  · intro listed a' w' i ⟨hsz, hdown, h1, hn0l, h2, h3, h4, h5, h6⟩ hns hr
    obtain ⟨hi, hif, o, ho, hoe⟩ := ready_spec hr
    have hi' : i < l.length := by simpa using hi
    have ho' : l[i]? = some o := by simpa using ho
    obtain ⟨hsel, _, hlook, htail⟩ := hall' i o ho'
    have hmask : ∀ j, ((masks l []).getD i 0).testBit j = true → Lst listed j :=
      masks_good l hdown l [] [] rfl rfl (fun i _ j hj => by simp at hj) (fun i o h0 => by simp at h0) i o ho' hoe
    have hin : i < n := by
      rcases Nat.lt_or_ge i n with h | h
      · exact h
      · exact absurd (fun j hj => hmask j (htail h j hj)) hns
    have hi0 : n0 ≤ i := by
      rcases Nat.lt_or_ge i n0 with h | h
      · have := hn0l i h
        unfold Lst at this
        rw [hif] at this; cases this
      · exact h
    have hset : ∀ k, (listed.setIfInBounds i true)[k]? = if i = k then some true else listed[k]? := by
      intro k
      rw [Array.getElem?_setIfInBounds]
      by_cases h1 : i = k
      · subst h1; rw [if_pos rfl, if_pos rfl, if_pos (by omega)]
      · rw [if_neg h1, if_neg h1]
    have hLmono : ∀ k, Lst listed k → Lst (listed.setIfInBounds i true) k := by
      intro k hk
      unfold Lst
      rw [hset]; split
      · rfl
      · exact hk
    have hLinv : ∀ k, Lst (listed.setIfInBounds i true) k → k = i ∨ Lst listed k := by
      intro k hk
      unfold Lst at hk
      rw [hset] at hk
      split at hk
      · exact .inl (by omega)
      · exact .inr hk
    have hdown' : Down (listed.setIfInBounds i true) := by
      intro k p hp hk j hj
      rcases hLinv k hk with rfl | hk
      · rw [ho'] at hp; simp at hp; subst hp
        exact hLmono _ (hoe j hj)
      · exact hLmono _ (hdown k p hp hk j hj)
    have hsz' : (listed.setIfInBounds i true).size = l.length := by simpa using hsz
    obtain ⟨v, sv, sq, su⟩ := sS' i o hi0 hin ho'
    have hlk := hlook hi0 hin
    unfold lookR at hlk
    have agree : ∀ t ∈ o.looksAt l.toArray, a'.tmps[t]? = (st i).tmps[t]? := by
      intro t ht
      have hlt := (List.all_eq_true.1 hlk) t ht
      by_cases hex : ∃ (j : Nat) (p : Oper), n0 ≤ j ∧ j < n ∧ l[j]? = some p ∧ p.dst = some t
      · obtain ⟨j, p, hj0, hj, hp, hd⟩ := hex
        have := (List.all_eq_true.1 hlt) j (List.mem_range.2 hj)
        have hbind : ((l.toArray[j]?).bind (·.dst)) = some t := by
          rw [List.getElem?_toArray, hp]; simpa using hd
        rw [hbind] at this
        simp only [beq_self_eq_true, decide_eq_true hj0, Bool.and_self, Bool.not_true, Bool.false_or, Bool.and_eq_true, decide_eq_true_eq] at this
        obtain ⟨hji, hbit⟩ := this
        rw [h5 j p t hj0 hj (hmask j hbit) hp hd]
        exact (stwrit j i p t hj0 hji (by omega) hp hd).symm
      · rw [h6 t (fun k p hk0 hk _ hp hd => hex ⟨k, p, hk0, hk, hp, hd⟩), stkeep t n0 i (Nat.le_refl _) hi0 (by omega) (fun j p hj0 hj hp hd => hex ⟨j, p, hj0, by omega, hp, hd⟩), s0]
    have hexec : execOp a'.eval o = execOp (st i).eval o := by
      refine execOp_congr o (fun cs b hsb => ?_) (fun x hx => eval_agree (fun t htx => agree t ?_))
      · unfold notSel at hsel
        rw [hsb] at hsel; cases hsel
      · subst htx
        exact List.mem_append_left _ (List.mem_filterMap.2 ⟨.tmp t, by simpa using hx, rfl⟩)
    have hyield : ∀ g, o.guard = some g → yielded l.toArray a'.tmps g.1 = yielded l.toArray (st i).tmps g.1 := by
      intro g hg
      unfold yielded
      cases hb : (l.toArray[g.1]?).bind (·.dst) with
      | none => rfl
      | some t =>
        have : t ∈ o.looksAt l.toArray := by
          refine List.mem_append_right _ ?_
          rw [hg]
          obtain ⟨g1, g2⟩ := g
          simp only at hb ⊢
          rw [hb]; simp
        simp only [Option.bind_some]
        rw [agree t this]
    have hwant : Region.wanted o (yielded l.toArray a'.tmps) = Region.wanted o (yielded l.toArray (st i).tmps) := by
      unfold Region.wanted
      cases hg : o.guard with
      | none => rfl
      | some g =>
        have := hyield g hg
        obtain ⟨g1, g2⟩ := g
        simp only at this ⊢
        rw [this]
    have next : ∀ w'', SatH c H w'' → Inv (listed.setIfInBounds i true) (a'.put o.dst v) w'' := by
      intro w'' hw''
      refine ⟨hsz', hdown', fun k hk hk2 => ?_, fun k hk => hLmono k (hn0l k hk), hw'', by rw [put_size, h3], by rw [put_defers, h4], ?_, ?_⟩
      · rw [hset, if_neg (by omega)]; exact h1 k hk hk2
      · intro k p t hk0 hk hLk hp hd
        rw [put_get]
        rcases hLinv k hLk with rfl | hLk2
        · rw [ho'] at hp; simp at hp; subst hp
          rw [← stwrit k (k + 1) o t hk0 (by omega) (by omega) ho' hd, sv, put_get, h3, (stsize k hk0 (by omega)).1]
          by_cases hts : t < a.tmps.size
          · rw [if_pos ⟨hd, hts⟩, if_pos ⟨hd, hts⟩]
          · have hle : a.tmps.size ≤ t := Nat.le_of_not_lt hts
            rw [if_neg (fun hc => hts hc.2), if_neg (fun hc => hts hc.2)]
            have e1 : a'.tmps[t]? = none := Array.getElem?_eq_none (by rw [h3]; exact hle)
            have e2 : (st k).tmps[t]? = none := Array.getElem?_eq_none (by rw [(stsize k hk0 (by omega)).1]; exact hle)
            rw [e1, e2]
        · rw [if_neg (fun hc => by
            have := huniq' k i p o t hk0 hk hi0 hin hp ho' hd hc.1
            subst this
            unfold Lst at hLk2
            rw [hif] at hLk2; cases hLk2)]
          exact h5 k p t hk0 hk hLk2 hp hd
      · intro t hno
        rw [put_get, if_neg (fun hc => hno i o hi0 hin (by unfold Lst; rw [hset, if_pos rfl]) ho' hc.1)]
        exact h6 t (fun k p hk0 hk hLk hp => hno k p hk0 hk (hLmono k hLk) hp)
    unfold wpOp
    rw [ho]
    simp only []
    cases hwv : Region.wanted o (yielded l.toArray a'.tmps) with
    | true =>
      rw [if_pos rfl]
      left
      have hq := sq (by rw [← hwant]; exact hwv) w' h2
      unfold Oper.wp
      rw [hexec]
      generalize (execOp (st i).eval o).run c.P w' = r at hq
      cases r with
      | halt x w2 => exact hq.elim
      | ok x w2 =>
        cases x with
        | value u =>
          obtain ⟨rfl, rfl⟩ := hq
          rw [Oper.upon_value]
          exact next _ h2
        | enter f args =>
          obtain ⟨rfl, hcall⟩ := hq
          rw [Oper.upon_enter]
          refine hcall.mono ?_
          rintro e w3 ⟨rfl, hk⟩
          exact next _ (h2.world hk)
        | _ => exact hq.elim
    | false =>
      rw [if_neg (by simp)]
      have := su (by rw [← hwant]; exact hwv)
      subst this
      exact next _ h2
  · refine ⟨lstN_size, ?_, fun i hi hil => ?_, fun i hi => lstN_lst.2 ⟨by omega, hi⟩, hs.hh, rfl, rfl, fun i o t hi0 hi hL => ?_, fun t _ => rfl⟩
    · intro i o ho hi j hj
      have hji := (hall' i o ho).2.1 j hj
      have := lstN_lst.1 hi
      exact lstN_lst.2 ⟨by omega, by omega⟩
    · rw [lstN_get, if_pos hil]
      have : ¬ i < n0 := by omega
      simp [this]
    · have := lstN_lst.1 hL; omega
end
end Go.Sl
