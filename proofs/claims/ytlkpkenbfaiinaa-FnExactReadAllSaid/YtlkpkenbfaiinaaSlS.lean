/- What the walked functions compute, in plain Lean: parts, prices, weights, crates; searching a list. -/
import Derived.Test.YtlkpkenbfaiinaaSlJ
namespace Go.Sl

def isPart (p : Nat) : Bool := fle 0 p && fle p 1065353216
def isPrice (p : Nat) : Bool := fle 0 p && fle p 1148846080
def isWeight (p : Nat) : Bool := fle 1015021568 p && fle p 1115684864
def same (p q : Nat) : Bool := if nan p || nan q then nan p && nan q else p == q
def inR (n lo hi : Int) : Bool := decide (lo ≤ n) && decide (n ≤ hi)

/-- a crate's check, place by place -/
def vAt (n : Int) (rs : List Nat) (i : Nat) : Bool := if (i : Int) < n then isPart (rs.getD i 0) else same (rs.getD i 0) 0
def vCrate (n : Int) (rs : List Nat) : Bool := inR n 0 16 && (List.range 16).all (vAt n rs)

theorem vCrate_bad {n : Int} {rs : List Nat} (h : inR n 0 16 = false) : vCrate n rs = false := by simp [vCrate, h]
theorem vCrate_no {n : Int} {rs : List Nat} {i : Nat} (hi : i < 16) (h : vAt n rs i = false) : vCrate n rs = false := by
  unfold vCrate
  have : (List.range 16).all (vAt n rs) = false := by
    rw [List.all_eq_false]
    exact ⟨i, List.mem_range.2 hi, by simp [h]⟩
  rw [this]; simp
theorem vCrate_yes {n : Int} {rs : List Nat} (h0 : inR n 0 16 = true) (h : ∀ i, i < 16 → vAt n rs i = true) : vCrate n rs = true := by
  unfold vCrate
  rw [h0]
  simp only [Bool.true_and, List.all_eq_true]
  intro i hi
  exact h i (List.mem_range.1 hi)
theorem vCrate_at {n : Int} {rs : List Nat} (h : vCrate n rs = true) : 0 ≤ n ∧ n ≤ 16 ∧ ∀ i, i < 16 → vAt n rs i = true := by
  unfold vCrate inR at h
  simp only [Bool.and_eq_true, decide_eq_true_eq, List.all_eq_true] at h
  exact ⟨h.1.1, h.1.2, fun i hi => h.2 i (List.mem_range.2 hi)⟩
theorem vCrate_part {n : Int} {rs : List Nat} (h : vCrate n rs = true) {i : Nat} (hi : (i : Int) < n) : isPart (rs.getD i 0) = true := by
  obtain ⟨h0, h1, h2⟩ := vCrate_at h
  have := h2 i (by omega)
  unfold vAt at this
  rw [if_pos hi] at this
  exact this

/-- the first place at which a list meets a test, -1 if there is none -/
def idxOf {α : Type} (p : α → Bool) (es : List α) : Int :=
  match es.findIdx? p with
  | some i => i
  | none => -1
theorem idxOf_some {α : Type} {p : α → Bool} : ∀ {es : List α} {d : α} {k : Nat}, k < es.length → p (es.getD k d) = true → (∀ j, j < k → p (es.getD j d) = false) → idxOf p es = k
  | [], d, k, h, _, _ => by simp at h
  | e :: es, d, 0, h, h1, _ => by
    have : p e = true := by simpa using h1
    simp [idxOf, List.findIdx?_cons, this]
  | e :: es, d, k + 1, h, h1, h2 => by
    have h0 : p e = false := by simpa using h2 0 (by omega)
    have ih := idxOf_some (p := p) (es := es) (d := d) (k := k) (by simpa using h) (by simpa using h1) (fun j hj => by simpa using h2 (j + 1) (by omega))
    unfold idxOf at ih ⊢
    rw [List.findIdx?_cons, h0]
    cases hf : es.findIdx? p with
    | none => rw [hf] at ih; simp at ih
    | some i =>
      rw [hf] at ih
      simp only [Int.natCast_inj] at ih
      simp [ih]
theorem idxOf_none {α : Type} {p : α → Bool} : ∀ {es : List α} {d : α}, (∀ j, j < es.length → p (es.getD j d) = false) → idxOf p es = -1
  | [], d, _ => rfl
  | e :: es, d, h => by
    have h0 : p e = false := by simpa using h 0 (by simp)
    have ih := idxOf_none (p := p) (es := es) (d := d) (fun j hj => by simpa using h (j + 1) (by simpa using hj))
    unfold idxOf at ih ⊢
    rw [List.findIdx?_cons, h0]
    cases hf : es.findIdx? p with
    | none => simp
    | some i => rw [hf] at ih; simp at ih
theorem idxOf_any {α : Type} (p : α → Bool) (es : List α) : decide ((0 : Int) ≤ idxOf p es) = es.any p := by
  unfold idxOf
  cases hf : es.findIdx? p with
  | none =>
    have : es.any p = false := by
      rw [List.findIdx?_eq_none_iff] at hf
      rw [List.any_eq_false]
      intro x hx; simp [hf x hx]
    rw [this]; rfl
  | some i =>
    have : es.any p = true := by
      rw [List.findIdx?_eq_some_iff_getElem] at hf
      obtain ⟨h, h1, _⟩ := hf
      rw [List.any_eq_true]
      exact ⟨_, List.getElem_mem h, h1⟩
    rw [this]; simp
theorem any_not {α : Type} (p : α → Bool) (es : List α) : (!es.any fun a => !p a) = es.all p := by
  induction es with
  | nil => rfl
  | cons e es ih => simp only [List.any_cons, List.all_cons, Bool.not_or, Bool.not_not, ih]

theorem all_getD {α : Type} {p : α → Bool} {es : List α} {d : α} : es.all p = true ↔ ∀ i, i < es.length → p (es.getD i d) = true := by
  rw [List.all_eq_true]
  constructor
  · intro h i hi
    rw [List.getD_eq_getElem?_getD, List.getElem?_eq_getElem hi]
    exact h _ (List.getElem_mem hi)
  · intro h x hx
    obtain ⟨i, hi, rfl⟩ := List.getElem_of_mem hx
    have := h i hi
    rw [List.getD_eq_getElem?_getD, List.getElem?_eq_getElem hi] at this
    exact this

/-- the check of a crate as the program makes it: the fruits are parts, all behind them are as 0 -/
theorem vCrate_split {n : Nat} {rs : List Nat} (hn : n ≤ 16) (hl : rs.length = 16) : vCrate n rs = ((rs.take n).all isPart && (rs.drop n).all (same · 0)) := by
  have h0 : inR (n : Int) 0 16 = true := by simp [inR]; omega
  cases hc : ((rs.take n).all isPart && (rs.drop n).all (same · 0)) with
  | true =>
    rw [Bool.and_eq_true, all_getD (d := 0), all_getD (d := 0)] at hc
    obtain ⟨h1, h2⟩ := hc
    refine vCrate_yes h0 fun i hi => ?_
    unfold vAt
    split
    · have := h1 i (by simp; omega)
      rw [List.getD_eq_getElem?_getD, List.getElem?_take, if_pos (by omega), ← List.getD_eq_getElem?_getD] at this
      exact this
    · have := h2 (i - n) (by simp; omega)
      rw [List.getD_eq_getElem?_getD, List.getElem?_drop, ← List.getD_eq_getElem?_getD, show n + (i - n) = i by omega] at this
      exact this
  | false =>
    cases hv : vCrate n rs with
    | false => rfl
    | true =>
      exfalso
      obtain ⟨_, _, h2⟩ := vCrate_at hv
      have h1 : ((rs.take n).all isPart && (rs.drop n).all (same · 0)) = true := by
        rw [Bool.and_eq_true, all_getD (d := 0), all_getD (d := 0)]
        refine ⟨fun i hi => ?_, fun i hi => ?_⟩
        · rw [List.getD_eq_getElem?_getD, List.getElem?_take, if_pos (by simp at hi; omega), ← List.getD_eq_getElem?_getD]
          have := h2 i (by simp at hi; omega)
          unfold vAt at this
          rw [if_pos (by simp at hi; omega)] at this
          exact this
        · rw [List.getD_eq_getElem?_getD, List.getElem?_drop, ← List.getD_eq_getElem?_getD]
          have := h2 (n + i) (by simp at hi; omega)
          unfold vAt at this
          rw [if_neg (by omega)] at this
          exact this
      rw [h1] at hc; cases hc

/- structs of the program -/
structure OrderV where
  cnt : Int
  least : Nat
  price : Nat
structure GoodV where
  makes : Nat
  bears : Nat
structure LookV where
  red : Nat
  green : Nat
  blue : Nat
def OrderV.cells (o : OrderV) : List Value := [.int .i8 o.cnt, .float .f32 o.least, .float .f32 o.price]
def GoodV.cells (o : GoodV) : List Value := [.float .f32 o.makes, .float .f32 o.bears]
def LookV.cells (o : LookV) : List Value := [.float .f32 o.red, .float .f32 o.green, .float .f32 o.blue]
instance : Inhabited OrderV := ⟨⟨0, 0, 0⟩⟩
instance : Inhabited GoodV := ⟨⟨0, 0⟩⟩
instance : Inhabited LookV := ⟨⟨0, 0, 0⟩⟩
def OrderV.ok (o : OrderV) : Bool := inR o.cnt 0 16 && isPart o.least && isPrice o.price
def GoodV.ok (o : GoodV) : Bool := isPart o.makes && isPart o.bears
def LookV.ok (o : LookV) : Bool := isPart o.red && isPart o.green && isPart o.blue

def cmpF (p q : Nat) : Int := if flt p q then -1 else if flt q p then 1 else 0
theorem dec_cast (p q : Nat) : decide ((p : Int) = (q : Int)) = (p == q) := by
  by_cases h : p = q
  · subst h; simp
  · have : ¬ ((p : Int) = (q : Int)) := by omega
    simp [h, this]
theorem same_fin {p q : Nat} (h1 : (!feq p p) = false) (h2 : (!feq q q) = false) : packV [.bool (decide ((p : Int) = (q : Int)))] = .bool (same p q) := by
  rw [feq_self] at h1 h2
  simp only [Bool.not_not] at h1 h2
  show Value.bool _ = Value.bool _
  unfold same
  rw [h1, h2]
  congr 1
  by_cases h : p = q
  · subst h; simp
  · have : ¬ ((p : Int) = (q : Int)) := by omega
    simp [h, this]

/-- reads handed on: all that a contract reads lies behind the first entry -/
theorem insMono {X H Y : Hp} {e : Nat × Obj} (h : Ins X H Y) : Ins (e :: X) H Y := by
  induction h with
  | z => exact .z
  | s i _ ih => exact .s (by cases i with | h m => exact .h m | x m => exact .x (.s m)) ih
theorem insSelf : ∀ (X H : Hp), Ins X H X
  | [], _ => .z
  | _ :: X, H => .s (.x .z) (insMono (insSelf X H))

/-- a copy under way: k of n places are filled -/
def cp (rs : List Nat) (k n : Nat) : List Nat := rs.take k ++ List.replicate (n - k) 0
theorem cp_length {rs : List Nat} {k n : Nat} (hk : k ≤ n) (hl : rs.length = n) : (cp rs k n).length = n := by simp [cp]; omega
theorem cp_set {rs : List Nat} {k n : Nat} (hk : k < n) (_ : k ≤ n) (hl : rs.length = n) : fl .f32 ((cp rs k n).set k (rs.getD k 0)) = fl .f32 (cp rs (k + 1) n) := by
  congr 1
  unfold cp
  rw [List.set_append_right _ _ (by rw [List.length_take]; omega), take_succ_getD (d := 0) (by omega)]
  have e : k - (rs.take k).length = 0 := by simp; omega
  rw [e, show n - k = (n - (k + 1)) + 1 by omega, List.replicate_succ]
  simp
theorem cp_full {rs : List Nat} {n : Nat} (hl : rs.length = n) : cp rs n n = rs := by
  unfold cp
  rw [← hl]; simp
theorem putF {k : FloatKind} {l m : List Nat} (h : l.length = m.length) : putL (fl k m) 0 (fl k l) = fl k l := by
  have := putL_append (fl k l) [] (fl k m) (by simp [fl_length]; omega)
  simp only [List.nil_append, List.length_nil] at this
  rw [this, List.drop_eq_nil_of_le (by simp [fl_length]; omega)]
  simp

/-- a test met at each of the first n places -/
def allN (n : Nat) (p : Nat → Bool) : Bool := (List.range n).all p
theorem allN_yes {n : Nat} {p : Nat → Bool} (h : ∀ i, i < n → p i = true) : allN n p = true := by
  unfold allN
  rw [List.all_eq_true]
  intro i hi
  exact h i (List.mem_range.1 hi)
theorem allN_no {n : Nat} {p : Nat → Bool} {i : Nat} (hi : i < n) (h : p i = false) : allN n p = false := by
  unfold allN
  rw [List.all_eq_false]
  exact ⟨i, List.mem_range.2 hi, by simp [h]⟩
theorem allN_at {n : Nat} {p : Nat → Bool} (h : allN n p = true) : ∀ i, i < n → p i = true := by
  unfold allN at h
  rw [List.all_eq_true] at h
  intro i hi
  exact h i (List.mem_range.2 hi)
theorem allN_all {α : Type} (d : α) (p : α → Bool) (es : List α) : allN es.length (fun i => p (es.getD i d)) = es.all p := by
  cases h : es.all p with
  | true => exact allN_yes fun i hi => (all_getD (d := d)).1 h i hi
  | false =>
    cases h2 : allN es.length (fun i => p (es.getD i d)) with
    | false => rfl
    | true => rw [(all_getD (d := d)).2 (allN_at h2)] at h; cases h

def sameL (n : Nat) (ps qs : List Nat) : Bool := allN n fun i => same (ps.getD i 0) (qs.getD i 0)
theorem vCrate_in {n : Int} {rs : List Nat} (h : vCrate n rs = true) : 0 ≤ n ∧ n ≤ 16 := by
  unfold vCrate inR at h
  simp only [Bool.and_eq_true, decide_eq_true_eq] at h
  exact h.1
theorem one_C (k : FloatKind) (i : IntKind) (n : Int) (l : List Nat) : (Value.int i n :: fl k l).all one = true := by simp [fl, one]
theorem putAll {l vs : List Value} (h : vs.length = l.length) : putL l 0 vs = vs := by
  have := putL_append vs [] l (by omega)
  simp only [List.nil_append, List.length_nil] at this
  rw [this, List.drop_eq_nil_of_le (by omega)]
  simp
theorem putC {a x : Value} {l vs : List Value} (h : vs.length = l.length) : putL (List.set (a :: l) 0 x) (0 + 1) vs = x :: vs := by
  have := putL_append vs [x] l (by omega)
  rw [List.drop_eq_nil_of_le (by omega)] at this
  simpa using this
theorem bdC {z : Value} {zl : List Value} {i : IntKind} {x : Int} {k : FloatKind} {rs : List Nat} {n : Nat} (hl : rs.length = n) (hz : zl.length = n) :
    fillL (.inl [(0, 1), (1, n)]) (z :: zl) [(0, .int i x), (1, .agg (fl k rs).toArray)] = some (.int i x :: fl k rs) := by
  have h1 : (Value.cells (.agg (fl k rs).toArray)).toList = fl k rs := by simp [Value.cells]
  have h2 : (Value.cells (.int i x)).toList = [.int i x] := rfl
  have h3 : putL (z :: zl) 0 [.int i x] = .int i x :: zl := rfl
  have h4 : putL (.int i x :: zl) 1 (fl k rs) = .int i x :: fl k rs := by
    have := putC (a := z) (x := .int i x) (l := zl) (vs := fl k rs) (by simp [fl_length]; omega)
    simpa using this
  simp only [fillL, placeOf, List.getElem?_cons_zero, List.getElem?_cons_succ, h1, h2, h3]
  have e1 : Nat.ble 1 (n + 1) = true := by rw [Nat.ble_eq]; omega
  have e2 : Nat.ble (1 + n) (n + 1) = true := by rw [Nat.ble_eq]; omega
  simp [h4, fl_length, hl, hz, e1, e2]
end Go.Sl
