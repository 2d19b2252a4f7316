/- The rules of the small logic for single operations that turn no memory: one rule an operation; what is asked of the slots is asked of the list of pairs. -/
import Derived.Test.YtlkpkenbfaiinaaSlA
namespace Go.Sl

def gdB (ops : Array Oper) (E : Env) : Option (Nat × Bool) → Option Bool
  | none => some true
  | some (j, b) =>
    match (ops[j]?).bind (·.dst) with
    | some d =>
      match look E d with
      | some (.bool t) => some (t == b)
      | some (.tuple _) => some false
      | _ => none
    | none => some false

section
variable {c : Ctx} {E : Env} {H : Hp} {Q : Exit → Act → World → Prop} {ops : Array Oper} {rest : List Oper} {d : Nat} {ty : TypeId} {pos : String} {af : Array Edge} {g : Option (Nat × Bool)}

theorem wanted_of {o : Oper} {t : Bool} {a : Act} {w : World} (hs : Sat c E H a w) (hg : gdB ops E o.guard = some t) : Region.wanted o (yielded ops a.tmps) = t := by
  unfold gdB at hg
  unfold Region.wanted
  split at hg
  · rename_i h0; rw [h0]; simpa using hg
  · rename_i j b h0
    rw [h0]
    simp only [yielded]
    split at hg
    · rename_i k hk
      rw [hk]
      simp only [Option.bind_some]
      split at hg
      · rename_i u hu
        rw [hs.env _ _ hu]
        simp at hg; subst hg
        cases u <;> cases b <;> rfl
      · rename_i u hu
        rw [hs.env _ _ hu]
        simpa using hg
      · cases hg
    · rename_i hk
      rw [hk]
      simpa using hg

/-- the region's end -/
theorem R_nil (h : K c (Q .normal) E H) : K c (wpList c.P ops Q []) E H := fun a w hs => h a w hs

theorem R_region {id : Nat} {l : List Oper} (h : K c (wpList c.P l.toArray Q l) E H) : K c ((Code.region id l.toArray false).wp c.P Q) E H :=
  fun a w hs => wp_region_lit (h a w hs)

theorem op_step {o : Oper} (hg : gdB ops E o.guard = some true) (h : ∀ a w, Sat c E H a w → o.wp c.P a w (wpList c.P ops Q rest) Q) : K c (wpList c.P ops Q (o :: rest)) E H := by
  intro a w hs
  unfold wpList
  rw [if_pos (wanted_of hs hg)]
  exact .inl (h a w hs)

theorem r_skip {op : Op} (hg : gdB ops E g = some false) (hd : Nat.blt d c.n = true) (k : K c (wpList c.P ops Q rest) ((d, undef) :: E) H) :
    K c (wpList c.P ops Q (⟨some d, op, ty, pos, af, g⟩ :: rest)) E H := by
  intro a w hs
  unfold wpList
  rw [if_neg (by rw [wanted_of (o := ⟨some d, op, ty, pos, af, g⟩) hs hg]; simp)]
  exact k _ _ (hs.put hd _)

theorem r_skip0 {op : Op} (hg : gdB ops E g = some false) (k : K c (wpList c.P ops Q rest) E H) :
    K c (wpList c.P ops Q (⟨none, op, ty, pos, af, g⟩ :: rest)) E H := by
  intro a w hs
  unfold wpList
  rw [if_neg (by rw [wanted_of (o := ⟨none, op, ty, pos, af, g⟩) hs hg]; simp)]
  exact k _ _ hs

/-- an operation that turns nothing: what it yields wherever so much is known -/
def PR (c : Ctx) (E : Env) (H : Hp) (o : Oper) (v : Value) : Prop := ∀ a w, Sat c E H a w → (execOp a.eval o).run c.P w = .ok (.value v) w

/-- an operation that turns nothing -/
theorem op_pure {op : Op} {v : Value} (hg : gdB ops E g = some true) (hd : Nat.blt d c.n = true)
    (hrun : ∀ a w, Sat c E H a w → (execOp a.eval ⟨some d, op, ty, pos, af, g⟩).run c.P w = .ok (.value v) w)
    (k : K c (wpList c.P ops Q rest) ((d, v) :: E) H) : K c (wpList c.P ops Q (⟨some d, op, ty, pos, af, g⟩ :: rest)) E H :=
  op_step hg fun a w hs => by
    unfold Oper.wp
    rw [hrun a w hs, Oper.upon_value]
    exact k _ _ (hs.put hd v)

variable {x y z : Operand}

theorem p_move {v : Value} (hx : ev E x = some v) : PR c E H ⟨some d, .move x, ty, pos, af, g⟩ (v) :=
  (fun a w hs => by simp [execOp, hs.ev hx])
theorem r_move {v : Value} (hg : gdB ops E g = some true) (hd : Nat.blt d c.n = true) (hx : ev E x = some v)
    (k : K c (wpList c.P ops Q rest) ((d, v) :: E) H) : K c (wpList c.P ops Q (⟨some d, .move x, ty, pos, af, g⟩ :: rest)) E H :=
  op_pure hg hd (fun a w hs => by simp [execOp, hs.ev hx]) k

theorem p_assign {v : Value} (hx : ev E x = some v) : PR c E H ⟨some d, .assign x, ty, pos, af, g⟩ (v) :=
  (fun a w hs => by simp [execOp, hs.ev hx])
theorem r_assign {v : Value} (hg : gdB ops E g = some true) (hd : Nat.blt d c.n = true) (hx : ev E x = some v)
    (k : K c (wpList c.P ops Q rest) ((d, v) :: E) H) : K c (wpList c.P ops Q (⟨some d, .assign x, ty, pos, af, g⟩ :: rest)) E H :=
  op_pure hg hd (fun a w hs => by simp [execOp, hs.ev hx]) k

theorem p_pick_t {v : Value} (hx : ev E x = some (.bool true)) (hy : ev E y = some v) : PR c E H ⟨some d, .pick x y z, ty, pos, af, g⟩ (v) :=
  (fun a w hs => by simp [execOp, hs.ev hx, hs.ev hy, asBool])
theorem r_pick_t {v : Value} (hg : gdB ops E g = some true) (hd : Nat.blt d c.n = true) (hx : ev E x = some (.bool true)) (hy : ev E y = some v)
    (k : K c (wpList c.P ops Q rest) ((d, v) :: E) H) : K c (wpList c.P ops Q (⟨some d, .pick x y z, ty, pos, af, g⟩ :: rest)) E H :=
  op_pure hg hd (fun a w hs => by simp [execOp, hs.ev hx, hs.ev hy, asBool]) k

theorem p_pick_f {v : Value} (hx : ev E x = some (.bool false)) (hy : ev E z = some v) : PR c E H ⟨some d, .pick x y z, ty, pos, af, g⟩ (v) :=
  (fun a w hs => by simp [execOp, hs.ev hx, hs.ev hy, asBool])
theorem r_pick_f {v : Value} (hg : gdB ops E g = some true) (hd : Nat.blt d c.n = true) (hx : ev E x = some (.bool false)) (hy : ev E z = some v)
    (k : K c (wpList c.P ops Q rest) ((d, v) :: E) H) : K c (wpList c.P ops Q (⟨some d, .pick x y z, ty, pos, af, g⟩ :: rest)) E H :=
  op_pure hg hd (fun a w hs => by simp [execOp, hs.ev hx, hs.ev hy, asBool]) k

theorem p_nilCheck {ad : Addr} (hx : ev E x = some (.pointer (some ad))) : PR c E H ⟨some d, .nilCheck x, ty, pos, af, g⟩ (.pointer (some ad)) :=
  (fun a w hs => by simp [execOp, hs.ev hx])
theorem r_nilCheck {ad : Addr} (hg : gdB ops E g = some true) (hd : Nat.blt d c.n = true) (hx : ev E x = some (.pointer (some ad)))
    (k : K c (wpList c.P ops Q rest) ((d, .pointer (some ad)) :: E) H) : K c (wpList c.P ops Q (⟨some d, .nilCheck x, ty, pos, af, g⟩ :: rest)) E H :=
  op_pure hg hd (fun a w hs => by simp [execOp, hs.ev hx]) k

theorem p_makeFunc {fn : Fn} {first captured : List Operand} {u v : List Value} (hx : evs E first = some u) (hy : evs E captured = some v) : PR c E H ⟨some d, .makeFunc fn first.toArray captured.toArray, ty, pos, af, g⟩ (.func fn u.toArray v.toArray) :=
  (fun a w hs => by
    have h1 := hs.evs hx
    have h2 := hs.evs hy
    simp only [execOp, Instr.makeFunc, List.map_toArray, h1, h2]
    simp)
theorem r_makeFunc {fn : Fn} {first captured : List Operand} {u v : List Value} (hg : gdB ops E g = some true) (hd : Nat.blt d c.n = true) (hx : evs E first = some u) (hy : evs E captured = some v)
    (k : K c (wpList c.P ops Q rest) ((d, .func fn u.toArray v.toArray) :: E) H) : K c (wpList c.P ops Q (⟨some d, .makeFunc fn first.toArray captured.toArray, ty, pos, af, g⟩ :: rest)) E H :=
  op_pure hg hd (fun a w hs => by
    have h1 := hs.evs hx
    have h2 := hs.evs hy
    simp only [execOp, Instr.makeFunc, List.map_toArray, h1, h2]
    simp) k

theorem p_extract {vs : List Value} {i : Nat} {v : Value} (hx : ev E x = some (.tuple vs.toArray)) (hi : vs[i]? = some v) : PR c E H ⟨some d, .extract x i, ty, pos, af, g⟩ (v) :=
  (fun a w hs => by simp [execOp, hs.ev hx, Instr.extract, hi])
theorem r_extract {vs : List Value} {i : Nat} {v : Value} (hg : gdB ops E g = some true) (hd : Nat.blt d c.n = true) (hx : ev E x = some (.tuple vs.toArray)) (hi : vs[i]? = some v)
    (k : K c (wpList c.P ops Q rest) ((d, v) :: E) H) : K c (wpList c.P ops Q (⟨some d, .extract x i, ty, pos, af, g⟩ :: rest)) E H :=
  op_pure hg hd (fun a w hs => by simp [execOp, hs.ev hx, Instr.extract, hi]) k

/- whole numbers -/
variable {xt yt : TypeId} {kd : IntKind} {m n : Int}

def inK (kd : IntKind) (n : Int) : Prop := kd.min ≤ n ∧ n ≤ kd.max
theorem wrap_in {kd : IntKind} {n : Int} (h : inK kd n) : kd.wrap n = n := by
  obtain ⟨h1, h2⟩ := h
  cases kd <;> simp only [IntKind.min, IntKind.max, IntKind.signed, IntKind.bits, IntKind.wrap] at * <;> simp at * <;> omega
theorem i64K {n : Int} (h1 : -9223372036854775808 ≤ n) (h2 : n ≤ 9223372036854775807) : inK .i64 n := ⟨h1, h2⟩
theorem u64K {n : Int} (h1 : 0 ≤ n) (h2 : n ≤ 18446744073709551615) : inK .u64 n := ⟨h1, h2⟩
theorem i8K {n : Int} (h1 : -128 ≤ n) (h2 : n ≤ 127) : inK .i8 n := ⟨h1, h2⟩
theorem u8K {n : Int} (h1 : 0 ≤ n) (h2 : n ≤ 255) : inK .u8 n := ⟨h1, h2⟩
theorem u32K {n : Int} (h1 : 0 ≤ n) (h2 : n ≤ 4294967295) : inK .u32 n := ⟨h1, h2⟩

theorem eqGuard_int (op : BinOp) (t : TypeId) (x y : Operand) (k k' : IntKind) (m n : Int) (P : Program) (w : World) : (eqGuard op t x y (.int k m) (.int k' n)).run P w = .ok () w := by
  cases op <;> rfl
theorem eqGuard_float (op : BinOp) (t : TypeId) (x y : Operand) (k k' : FloatKind) (m n : Nat) (P : Program) (w : World) : (eqGuard op t x y (.float k m) (.float k' n)).run P w = .ok () w := by
  cases op <;> rfl
theorem eqGuard_bool (op : BinOp) (t : TypeId) (x y : Operand) (m n : Bool) (P : Program) (w : World) : (eqGuard op t x y (.bool m) (.bool n)).run P w = .ok () w := by
  cases op <;> rfl
theorem eqGuard_string (op : BinOp) (t : TypeId) (x y : Operand) (m n : ByteArray) (P : Program) (w : World) : (eqGuard op t x y (.string m) (.string n)).run P w = .ok () w := by
  cases op <;> rfl

theorem pr_bin {op : BinOp} {u v r : Value} (hx : ev E x = some u) (hy : ev E y = some v)
    (h1 : ∀ w, (eqGuard op xt x y u v).run c.P w = .ok () w) (h2 : ∀ w, (binOp op xt u v).run c.P w = .ok r w) : PR c E H ⟨some d, .binOp op xt x y yt, ty, pos, af, g⟩ r :=
  fun a w hs => by simp [execOp, hs.ev hx, hs.ev hy, h1, h2]

theorem op_bin {op : BinOp} {u v r : Value} (hg : gdB ops E g = some true) (hd : Nat.blt d c.n = true) (hx : ev E x = some u) (hy : ev E y = some v)
    (h1 : ∀ w, (eqGuard op xt x y u v).run c.P w = .ok () w) (h2 : ∀ w, (binOp op xt u v).run c.P w = .ok r w)
    (k : K c (wpList c.P ops Q rest) ((d, r) :: E) H) : K c (wpList c.P ops Q (⟨some d, .binOp op xt x y yt, ty, pos, af, g⟩ :: rest)) E H :=
  op_pure hg hd (fun a w hs => by simp [execOp, hs.ev hx, hs.ev hy, h1, h2]) k

theorem p_add (hx : ev E x = some (.int kd m)) (hy : ev E y = some (.int kd n)) (hk : inK kd (m + n)) : PR c E H ⟨some d, .binOp .add xt x y yt, ty, pos, af, g⟩ (.int kd (m + n)) :=
  pr_bin hx hy (fun w => eqGuard_int _ _ _ _ _ _ _ _ _ w) (fun w => by simp [binOp, Op.intArith, wrap_in hk])
theorem r_add (hg : gdB ops E g = some true) (hd : Nat.blt d c.n = true) (hx : ev E x = some (.int kd m)) (hy : ev E y = some (.int kd n)) (hk : inK kd (m + n))
    (k : K c (wpList c.P ops Q rest) ((d, .int kd (m + n)) :: E) H) : K c (wpList c.P ops Q (⟨some d, .binOp .add xt x y yt, ty, pos, af, g⟩ :: rest)) E H :=
  op_bin hg hd hx hy (fun w => eqGuard_int _ _ _ _ _ _ _ _ _ w) (fun w => by simp [binOp, Op.intArith, wrap_in hk]) k
theorem p_sub (hx : ev E x = some (.int kd m)) (hy : ev E y = some (.int kd n)) (hk : inK kd (m - n)) : PR c E H ⟨some d, .binOp .sub xt x y yt, ty, pos, af, g⟩ (.int kd (m - n)) :=
  pr_bin hx hy (fun w => eqGuard_int _ _ _ _ _ _ _ _ _ w) (fun w => by simp [binOp, Op.intArith, wrap_in hk])
theorem r_sub (hg : gdB ops E g = some true) (hd : Nat.blt d c.n = true) (hx : ev E x = some (.int kd m)) (hy : ev E y = some (.int kd n)) (hk : inK kd (m - n))
    (k : K c (wpList c.P ops Q rest) ((d, .int kd (m - n)) :: E) H) : K c (wpList c.P ops Q (⟨some d, .binOp .sub xt x y yt, ty, pos, af, g⟩ :: rest)) E H :=
  op_bin hg hd hx hy (fun w => eqGuard_int _ _ _ _ _ _ _ _ _ w) (fun w => by simp [binOp, Op.intArith, wrap_in hk]) k
theorem p_mul (hx : ev E x = some (.int kd m)) (hy : ev E y = some (.int kd n)) (hk : inK kd (m * n)) : PR c E H ⟨some d, .binOp .mul xt x y yt, ty, pos, af, g⟩ (.int kd (m * n)) :=
  pr_bin hx hy (fun w => eqGuard_int _ _ _ _ _ _ _ _ _ w) (fun w => by simp [binOp, Op.intArith, wrap_in hk])
theorem r_mul (hg : gdB ops E g = some true) (hd : Nat.blt d c.n = true) (hx : ev E x = some (.int kd m)) (hy : ev E y = some (.int kd n)) (hk : inK kd (m * n))
    (k : K c (wpList c.P ops Q rest) ((d, .int kd (m * n)) :: E) H) : K c (wpList c.P ops Q (⟨some d, .binOp .mul xt x y yt, ty, pos, af, g⟩ :: rest)) E H :=
  op_bin hg hd hx hy (fun w => eqGuard_int _ _ _ _ _ _ _ _ _ w) (fun w => by simp [binOp, Op.intArith, wrap_in hk]) k
/-- with whatever comes out of the wrap -/
theorem p_arith {op : BinOp} {r : Int} (hx : ev E x = some (.int kd m)) (hy : ev E y = some (.int kd n)) (hr : ∀ P w, (binOp op xt (.int kd m) (.int kd n)).run P w = .ok (.int kd r) w) : PR c E H ⟨some d, .binOp op xt x y yt, ty, pos, af, g⟩ (.int kd r) :=
  pr_bin hx hy (fun w => eqGuard_int _ _ _ _ _ _ _ _ _ w) (fun w => hr _ w)
theorem r_arith {op : BinOp} {r : Int} (hg : gdB ops E g = some true) (hd : Nat.blt d c.n = true) (hx : ev E x = some (.int kd m)) (hy : ev E y = some (.int kd n)) (hr : ∀ P w, (binOp op xt (.int kd m) (.int kd n)).run P w = .ok (.int kd r) w)
    (k : K c (wpList c.P ops Q rest) ((d, .int kd r) :: E) H) : K c (wpList c.P ops Q (⟨some d, .binOp op xt x y yt, ty, pos, af, g⟩ :: rest)) E H :=
  op_bin hg hd hx hy (fun w => eqGuard_int _ _ _ _ _ _ _ _ _ w) (fun w => hr _ w) k
/-- the same on numbers that are not negative -/
theorem p_addN {a b : Nat} (hx : ev E x = some (.int kd (a : Int))) (hy : ev E y = some (.int kd (b : Int))) (hk : inK kd ((a : Int) + (b : Int))) : PR c E H ⟨some d, .binOp .add xt x y yt, ty, pos, af, g⟩ (.int kd ((a + b : Nat) : Int)) :=
  p_add hx hy hk
theorem p_subN {a b : Nat} (hx : ev E x = some (.int kd (a : Int))) (hy : ev E y = some (.int kd (b : Int))) (hk : inK kd (a : Int)) (hba : b ≤ a) : PR c E H ⟨some d, .binOp .sub xt x y yt, ty, pos, af, g⟩ (.int kd ((a - b : Nat) : Int)) := by
  have e : ((a - b : Nat) : Int) = (a : Int) - (b : Int) := by omega
  rw [e]
  refine p_sub hx hy ?_
  obtain ⟨h1, h2⟩ := hk
  refine ⟨?_, by omega⟩
  have : kd.min ≤ 0 := by cases kd <;> decide
  omega
theorem r_addN {a b : Nat} (hg : gdB ops E g = some true) (hd : Nat.blt d c.n = true) (hx : ev E x = some (.int kd (a : Int))) (hy : ev E y = some (.int kd (b : Int))) (hk : inK kd ((a : Int) + (b : Int)))
    (k : K c (wpList c.P ops Q rest) ((d, .int kd ((a + b : Nat) : Int)) :: E) H) : K c (wpList c.P ops Q (⟨some d, .binOp .add xt x y yt, ty, pos, af, g⟩ :: rest)) E H :=
  r_add hg hd hx hy hk k
theorem r_subN {a b : Nat} (hg : gdB ops E g = some true) (hd : Nat.blt d c.n = true) (hx : ev E x = some (.int kd (a : Int))) (hy : ev E y = some (.int kd (b : Int))) (hk : inK kd (a : Int)) (hba : b ≤ a)
    (k : K c (wpList c.P ops Q rest) ((d, .int kd ((a - b : Nat) : Int)) :: E) H) : K c (wpList c.P ops Q (⟨some d, .binOp .sub xt x y yt, ty, pos, af, g⟩ :: rest)) E H := by
  have e : ((a - b : Nat) : Int) = (a : Int) - (b : Int) := by omega
  rw [e] at k
  refine r_sub hg hd hx hy ?_ k
  obtain ⟨h1, h2⟩ := hk
  refine ⟨?_, by omega⟩
  have : kd.min ≤ 0 := by cases kd <;> decide
  omega

variable {k1 k2 : Value → Prop}
theorem op_cmp {op : BinOp} {t : Bool} (hg : gdB ops E g = some true) (hd : Nat.blt d c.n = true) (hx : ev E x = some (.int kd m)) (hy : ev E y = some (.int kd n))
    (h2 : ∀ w, (binOp op xt (.int kd m) (.int kd n)).run c.P w = .ok (.bool t) w)
    (h3 : t = true → K c (wpList c.P ops Q rest) ((d, .bool true) :: E) H) (h4 : t = false → K c (wpList c.P ops Q rest) ((d, .bool false) :: E) H) :
    K c (wpList c.P ops Q (⟨some d, .binOp op xt x y yt, ty, pos, af, g⟩ :: rest)) E H := by
  refine op_bin hg hd hx hy (fun w => eqGuard_int _ _ _ _ _ _ _ _ _ w) h2 ?_
  cases t with
  | true => exact h3 rfl
  | false => exact h4 rfl

theorem s_lss (hg : gdB ops E g = some true) (hd : Nat.blt d c.n = true) (hx : ev E x = some (.int kd m)) (hy : ev E y = some (.int kd n))
    (h3 : m < n → K c (wpList c.P ops Q rest) ((d, .bool true) :: E) H) (h4 : ¬ m < n → K c (wpList c.P ops Q rest) ((d, .bool false) :: E) H) :
    K c (wpList c.P ops Q (⟨some d, .binOp .lss xt x y yt, ty, pos, af, g⟩ :: rest)) E H :=
  op_cmp (t := decide (m < n)) hg hd hx hy (fun w => by simp [binOp, Op.intCmp]) (fun h => h3 (of_decide_eq_true h)) (fun h => h4 (of_decide_eq_false h))
theorem s_leq (hg : gdB ops E g = some true) (hd : Nat.blt d c.n = true) (hx : ev E x = some (.int kd m)) (hy : ev E y = some (.int kd n))
    (h3 : m ≤ n → K c (wpList c.P ops Q rest) ((d, .bool true) :: E) H) (h4 : ¬ m ≤ n → K c (wpList c.P ops Q rest) ((d, .bool false) :: E) H) :
    K c (wpList c.P ops Q (⟨some d, .binOp .leq xt x y yt, ty, pos, af, g⟩ :: rest)) E H :=
  op_cmp (t := decide (m ≤ n)) hg hd hx hy (fun w => by simp [binOp, Op.intCmp]) (fun h => h3 (of_decide_eq_true h)) (fun h => h4 (of_decide_eq_false h))
theorem s_gtr (hg : gdB ops E g = some true) (hd : Nat.blt d c.n = true) (hx : ev E x = some (.int kd m)) (hy : ev E y = some (.int kd n))
    (h3 : n < m → K c (wpList c.P ops Q rest) ((d, .bool true) :: E) H) (h4 : ¬ n < m → K c (wpList c.P ops Q rest) ((d, .bool false) :: E) H) :
    K c (wpList c.P ops Q (⟨some d, .binOp .gtr xt x y yt, ty, pos, af, g⟩ :: rest)) E H :=
  op_cmp (t := decide (n < m)) hg hd hx hy (fun w => by simp [binOp, Op.intCmp]) (fun h => h3 (of_decide_eq_true h)) (fun h => h4 (of_decide_eq_false h))
theorem s_geq (hg : gdB ops E g = some true) (hd : Nat.blt d c.n = true) (hx : ev E x = some (.int kd m)) (hy : ev E y = some (.int kd n))
    (h3 : n ≤ m → K c (wpList c.P ops Q rest) ((d, .bool true) :: E) H) (h4 : ¬ n ≤ m → K c (wpList c.P ops Q rest) ((d, .bool false) :: E) H) :
    K c (wpList c.P ops Q (⟨some d, .binOp .geq xt x y yt, ty, pos, af, g⟩ :: rest)) E H :=
  op_cmp (t := decide (n ≤ m)) hg hd hx hy (fun w => by simp [binOp, Op.intCmp]) (fun h => h3 (of_decide_eq_true h)) (fun h => h4 (of_decide_eq_false h))
theorem s_eql (hg : gdB ops E g = some true) (hd : Nat.blt d c.n = true) (hx : ev E x = some (.int kd m)) (hy : ev E y = some (.int kd n))
    (h3 : m = n → K c (wpList c.P ops Q rest) ((d, .bool true) :: E) H) (h4 : ¬ m = n → K c (wpList c.P ops Q rest) ((d, .bool false) :: E) H) :
    K c (wpList c.P ops Q (⟨some d, .binOp .eql xt x y yt, ty, pos, af, g⟩ :: rest)) E H :=
  op_cmp (t := decide (m = n)) hg hd hx hy (fun w => by simp only [binOp, Op.intCmp]; simp [BEq.beq]) (fun h => h3 (of_decide_eq_true h)) (fun h => h4 (of_decide_eq_false h))
theorem s_neq (hg : gdB ops E g = some true) (hd : Nat.blt d c.n = true) (hx : ev E x = some (.int kd m)) (hy : ev E y = some (.int kd n))
    (h3 : ¬ m = n → K c (wpList c.P ops Q rest) ((d, .bool true) :: E) H) (h4 : m = n → K c (wpList c.P ops Q rest) ((d, .bool false) :: E) H) :
    K c (wpList c.P ops Q (⟨some d, .binOp .neq xt x y yt, ty, pos, af, g⟩ :: rest)) E H :=
  op_cmp (t := !decide (m = n)) hg hd hx hy (fun w => by simp only [binOp, Op.intCmp]; simp [bne, BEq.beq]) (fun h => h3 (by simpa using h)) (fun h => h4 (by simpa using h))

/- the same, kept as a truth value -/
theorem p_tcmp {op : BinOp} {t : Bool} (hx : ev E x = some (.int kd m)) (hy : ev E y = some (.int kd n))
    (h2 : ∀ P w, (binOp op xt (.int kd m) (.int kd n)).run P w = .ok (.bool t) w) :
    PR c E H ⟨some d, .binOp op xt x y yt, ty, pos, af, g⟩ (.bool t) :=
  pr_bin hx hy (fun w => eqGuard_int _ _ _ _ _ _ _ _ _ w) (fun w => h2 _ w)
theorem p_tfcmp {op : BinOp} {t : Bool} {fk : FloatKind} {p q : Nat} (hx : ev E x = some (.float fk p)) (hy : ev E y = some (.float fk q))
    (h2 : ∀ (P : Program) (w : World), (binOp op xt (.float fk p) (.float fk q)).run P w = .ok (.bool t) w) :
    PR c E H ⟨some d, .binOp op xt x y yt, ty, pos, af, g⟩ (.bool t) :=
  pr_bin hx hy (fun w => eqGuard_float _ _ _ _ _ _ _ _ _ w) (fun w => h2 _ w)
theorem v_cmp {op : BinOp} {t : Bool} (hg : gdB ops E g = some true) (hd : Nat.blt d c.n = true) (hx : ev E x = some (.int kd m)) (hy : ev E y = some (.int kd n))
    (h2 : ∀ P w, (binOp op xt (.int kd m) (.int kd n)).run P w = .ok (.bool t) w)
    (k : K c (wpList c.P ops Q rest) ((d, .bool t) :: E) H) :
    K c (wpList c.P ops Q (⟨some d, .binOp op xt x y yt, ty, pos, af, g⟩ :: rest)) E H :=
  op_bin hg hd hx hy (fun w => eqGuard_int _ _ _ _ _ _ _ _ _ w) (fun w => h2 _ w) k
theorem c_lss {P : Program} {w : World} : (binOp .lss xt (.int kd m) (.int kd n)).run P w = .ok (.bool (decide (m < n))) w := by simp [binOp, Op.intCmp]
theorem c_leq {P : Program} {w : World} : (binOp .leq xt (.int kd m) (.int kd n)).run P w = .ok (.bool (decide (m ≤ n))) w := by simp [binOp, Op.intCmp]
theorem c_gtr {P : Program} {w : World} : (binOp .gtr xt (.int kd m) (.int kd n)).run P w = .ok (.bool (decide (n < m))) w := by simp [binOp, Op.intCmp]
theorem c_geq {P : Program} {w : World} : (binOp .geq xt (.int kd m) (.int kd n)).run P w = .ok (.bool (decide (n ≤ m))) w := by simp [binOp, Op.intCmp]
theorem c_eql {P : Program} {w : World} : (binOp .eql xt (.int kd m) (.int kd n)).run P w = .ok (.bool (decide (m = n))) w := by simp only [binOp, Op.intCmp]; simp [BEq.beq]
theorem c_neq {P : Program} {w : World} : (binOp .neq xt (.int kd m) (.int kd n)).run P w = .ok (.bool (!decide (m = n))) w := by simp only [binOp, Op.intCmp]; simp [bne, BEq.beq]

/- truth values -/
theorem p_not {t : Bool} (hx : ev E x = some (.bool t)) : PR c E H ⟨some d, .unOp .not xt x, ty, pos, af, g⟩ (.bool (!t)) :=
  (fun a w hs => by simp [execOp, hs.ev hx, Op.unary])
theorem r_not {t : Bool} (hg : gdB ops E g = some true) (hd : Nat.blt d c.n = true) (hx : ev E x = some (.bool t))
    (k : K c (wpList c.P ops Q rest) ((d, .bool (!t)) :: E) H) : K c (wpList c.P ops Q (⟨some d, .unOp .not xt x, ty, pos, af, g⟩ :: rest)) E H :=
  op_pure hg hd (fun a w hs => by simp [execOp, hs.ev hx, Op.unary]) k

theorem run_eqB {P : Program} {t : TypeId} {a b : Bool} {w : World} (h : P.underlying t = some .bool) : (binOp .eql t (.bool a) (.bool b)).run P w = .ok (.bool (a == b)) w := by
  have : ∀ n : Nat, (Op.equalIn (n + 1) t (.bool a) (.bool b)).run P w = .ok (a == b) w := fun n => by
    simp [Op.equalIn, run_underlying h]
  simp only [binOp]
  simp [Op.equal, Op.maxDepth, this 9999]
theorem run_neB {P : Program} {t : TypeId} {a b : Bool} {w : World} (h : P.underlying t = some .bool) : (binOp .neq t (.bool a) (.bool b)).run P w = .ok (.bool (!(a == b))) w := by
  have : ∀ n : Nat, (Op.equalIn (n + 1) t (.bool a) (.bool b)).run P w = .ok (a == b) w := fun n => by
    simp [Op.equalIn, run_underlying h]
  simp only [binOp]
  simp [Op.equal, Op.maxDepth, this 9999]
theorem p_eqB {s t : Bool} (hu : c.P.underlying xt = some .bool) (hx : ev E x = some (.bool s)) (hy : ev E y = some (.bool t)) : PR c E H ⟨some d, .binOp .eql xt x y yt, ty, pos, af, g⟩ (.bool (s == t)) :=
  pr_bin hx hy (fun w => eqGuard_bool _ _ _ _ _ _ _ w) (fun _ => run_eqB hu)
theorem r_eqB {s t : Bool} (hu : c.P.underlying xt = some .bool) (hg : gdB ops E g = some true) (hd : Nat.blt d c.n = true) (hx : ev E x = some (.bool s)) (hy : ev E y = some (.bool t))
    (k : K c (wpList c.P ops Q rest) ((d, .bool (s == t)) :: E) H) : K c (wpList c.P ops Q (⟨some d, .binOp .eql xt x y yt, ty, pos, af, g⟩ :: rest)) E H :=
  op_bin hg hd hx hy (fun w => eqGuard_bool _ _ _ _ _ _ _ w) (fun _ => run_eqB hu) k
theorem p_neB {s t : Bool} (hu : c.P.underlying xt = some .bool) (hx : ev E x = some (.bool s)) (hy : ev E y = some (.bool t)) : PR c E H ⟨some d, .binOp .neq xt x y yt, ty, pos, af, g⟩ (.bool (!(s == t))) :=
  pr_bin hx hy (fun w => eqGuard_bool _ _ _ _ _ _ _ w) (fun _ => run_neB hu)
theorem r_neB {s t : Bool} (hu : c.P.underlying xt = some .bool) (hg : gdB ops E g = some true) (hd : Nat.blt d c.n = true) (hx : ev E x = some (.bool s)) (hy : ev E y = some (.bool t))
    (k : K c (wpList c.P ops Q rest) ((d, .bool (!(s == t))) :: E) H) : K c (wpList c.P ops Q (⟨some d, .binOp .neq xt x y yt, ty, pos, af, g⟩ :: rest)) E H :=
  op_bin hg hd hx hy (fun w => eqGuard_bool _ _ _ _ _ _ _ w) (fun _ => run_neB hu) k

/- floats -/
variable {fk : FloatKind} {p q : Nat}
theorem p_fl {op : BinOp} {r : Nat} (hx : ev E x = some (.float fk p)) (hy : ev E y = some (.float fk q)) (hr : floatBits op fk p q = some r) : PR c E H ⟨some d, .binOp op xt x y yt, ty, pos, af, g⟩ (.float fk r) :=
  pr_bin hx hy (fun w => eqGuard_float _ _ _ _ _ _ _ _ _ w) (fun w => run_float_arith w op xt fk p q r hr)
theorem r_fl {op : BinOp} {r : Nat} (hg : gdB ops E g = some true) (hd : Nat.blt d c.n = true) (hx : ev E x = some (.float fk p)) (hy : ev E y = some (.float fk q)) (hr : floatBits op fk p q = some r)
    (k : K c (wpList c.P ops Q rest) ((d, .float fk r) :: E) H) : K c (wpList c.P ops Q (⟨some d, .binOp op xt x y yt, ty, pos, af, g⟩ :: rest)) E H :=
  op_bin hg hd hx hy (fun w => eqGuard_float _ _ _ _ _ _ _ _ _ w) (fun w => run_float_arith w op xt fk p q r hr) k

def fOrd (fk : FloatKind) (p q : Nat) : Option Ordering := fk.format.order p q
def flt (p q : Nat) : Bool := Ieee.single.order p q == some .lt
def feq (p q : Nat) : Bool := Ieee.single.order p q == some .eq
def fle (p q : Nat) : Bool := flt p q || feq p q

theorem order_flip (f : Ieee.Format) (p q : Nat) : f.order q p = (f.order p q).map Ordering.swap := by
  unfold Ieee.Format.order Ieee.Datum.order
  cases f.read p <;> cases f.read q <;> simp
  case number.number s m i t n j =>
    rw [Int.min_comm j i]
    exact (Std.OrientedCmp.eq_swap (cmp := (compare : Int → Int → Ordering))).trans rfl
  case number.infinity s m i t => cases t <;> rfl
  case infinity.number s t m i => cases s <;> rfl
  case infinity.infinity s t => cases s <;> cases t <;> rfl

theorem op_fcmp {op : BinOp} {t : Bool} (hg : gdB ops E g = some true) (hd : Nat.blt d c.n = true) (hx : ev E x = some (.float fk p)) (hy : ev E y = some (.float fk q))
    (h2 : ∀ w, (binOp op xt (.float fk p) (.float fk q)).run c.P w = .ok (.bool t) w)
    (h3 : t = true → K c (wpList c.P ops Q rest) ((d, .bool true) :: E) H) (h4 : t = false → K c (wpList c.P ops Q rest) ((d, .bool false) :: E) H) :
    K c (wpList c.P ops Q (⟨some d, .binOp op xt x y yt, ty, pos, af, g⟩ :: rest)) E H := by
  refine op_bin hg hd hx hy (fun w => eqGuard_float _ _ _ _ _ _ _ _ _ w) h2 ?_
  cases t with
  | true => exact h3 rfl
  | false => exact h4 rfl

def gt2 (p q : Nat) : Bool := flt q p
theorem flt_swap (p q : Nat) : (Ieee.single.order p q == some .gt) = flt q p := by
  unfold flt
  rw [order_flip Ieee.single p q]
  cases Ieee.single.order p q with
  | none => rfl
  | some o => cases o <;> rfl
theorem feq_swap (p q : Nat) : feq p q = feq q p := by
  unfold feq
  rw [order_flip Ieee.single p q]
  cases Ieee.single.order p q with
  | none => rfl
  | some o => cases o <;> rfl

theorem run_flt {P : Program} {w : World} : (binOp .lss xt (.float .f32 p) (.float .f32 q)).run P w = .ok (.bool (flt p q)) w := by
  simp [binOp, Op.floatCmp]; rfl
theorem run_fgt {P : Program} {w : World} : (binOp .gtr xt (.float .f32 p) (.float .f32 q)).run P w = .ok (.bool (flt q p)) w := by
  simp [binOp, Op.floatCmp]; exact flt_swap p q
theorem run_fle {P : Program} {w : World} : (binOp .leq xt (.float .f32 p) (.float .f32 q)).run P w = .ok (.bool (fle p q)) w := by
  simp [binOp, Op.floatCmp]; rfl
theorem run_fge {P : Program} {w : World} : (binOp .geq xt (.float .f32 p) (.float .f32 q)).run P w = .ok (.bool (fle q p)) w := by
  simp only [binOp, Op.floatCmp, fle, ← flt_swap p q, feq_swap q p]; simp; rfl
theorem run_feq {P : Program} {w : World} : (binOp .eql xt (.float .f32 p) (.float .f32 q)).run P w = .ok (.bool (feq p q)) w := by
  simp [binOp, Op.floatCmp]; rfl
theorem run_fne {P : Program} {w : World} : (binOp .neq xt (.float .f32 p) (.float .f32 q)).run P w = .ok (.bool (!feq p q)) w := by
  simp [binOp, Op.floatCmp]; rfl

theorem s_fcmp {op : BinOp} {t : Bool} (hg : gdB ops E g = some true) (hd : Nat.blt d c.n = true) (hx : ev E x = some (.float .f32 p)) (hy : ev E y = some (.float .f32 q))
    (h2 : ∀ (P : Program) (w : World), (binOp op xt (.float .f32 p) (.float .f32 q)).run P w = .ok (.bool t) w)
    (h3 : t = true → K c (wpList c.P ops Q rest) ((d, .bool true) :: E) H) (h4 : t = false → K c (wpList c.P ops Q rest) ((d, .bool false) :: E) H) :
    K c (wpList c.P ops Q (⟨some d, .binOp op xt x y yt, ty, pos, af, g⟩ :: rest)) E H :=
  op_fcmp hg hd hx hy (fun w => h2 _ w) h3 h4
theorem v_fcmp {op : BinOp} {t : Bool} (hg : gdB ops E g = some true) (hd : Nat.blt d c.n = true) (hx : ev E x = some (.float fk p)) (hy : ev E y = some (.float fk q))
    (h2 : ∀ (P : Program) (w : World), (binOp op xt (.float fk p) (.float fk q)).run P w = .ok (.bool t) w)
    (k : K c (wpList c.P ops Q rest) ((d, .bool t) :: E) H) :
    K c (wpList c.P ops Q (⟨some d, .binOp op xt x y yt, ty, pos, af, g⟩ :: rest)) E H :=
  op_bin hg hd hx hy (fun w => eqGuard_float _ _ _ _ _ _ _ _ _ w) (fun w => h2 _ w) k

/- conversions -/
theorem p_convI {k' : IntKind} (hu : ∃ u, c.P.underlying xt = some u) (hv : c.P.underlying yt = some (.int k')) (hx : ev E x = some (.int kd m)) (hk : inK k' m) : PR c E H ⟨some d, .convert xt yt x, ty, pos, af, g⟩ (.int k' m) :=
  (fun a w hs => by
    obtain ⟨u, hu⟩ := hu
    cases u <;> simp [execOp, hs.ev hx, convert, run_underlying hu, run_underlying hv, Conv.intToInt, wrap_in hk])
theorem r_convI {k' : IntKind} (hu : ∃ u, c.P.underlying xt = some u) (hv : c.P.underlying yt = some (.int k')) (hg : gdB ops E g = some true) (hd : Nat.blt d c.n = true) (hx : ev E x = some (.int kd m)) (hk : inK k' m)
    (k : K c (wpList c.P ops Q rest) ((d, .int k' m) :: E) H) : K c (wpList c.P ops Q (⟨some d, .convert xt yt x, ty, pos, af, g⟩ :: rest)) E H :=
  op_pure hg hd (fun a w hs => by
    obtain ⟨u, hu⟩ := hu
    cases u <;> simp [execOp, hs.ev hx, convert, run_underlying hu, run_underlying hv, Conv.intToInt, wrap_in hk]) k
theorem p_convIF {k' : FloatKind} (hu : ∃ u, c.P.underlying xt = some u) (hv : c.P.underlying yt = some (.float k')) (hx : ev E x = some (.int kd m)) : PR c E H ⟨some d, .convert xt yt x, ty, pos, af, g⟩ (.float k' (k'.nearest m)) :=
  (fun a w hs => by
    obtain ⟨u, hu⟩ := hu
    cases u <;> simp [execOp, hs.ev hx, convert, run_underlying hu, run_underlying hv, Conv.intToFloat])
theorem r_convIF {k' : FloatKind} (hu : ∃ u, c.P.underlying xt = some u) (hv : c.P.underlying yt = some (.float k')) (hg : gdB ops E g = some true) (hd : Nat.blt d c.n = true) (hx : ev E x = some (.int kd m))
    (k : K c (wpList c.P ops Q rest) ((d, .float k' (k'.nearest m)) :: E) H) : K c (wpList c.P ops Q (⟨some d, .convert xt yt x, ty, pos, af, g⟩ :: rest)) E H :=
  op_pure hg hd (fun a w hs => by
    obtain ⟨u, hu⟩ := hu
    cases u <;> simp [execOp, hs.ev hx, convert, run_underlying hu, run_underlying hv, Conv.intToFloat]) k
theorem p_convFF {s k' : FloatKind} {r : Nat} (hu : ∃ u, c.P.underlying xt = some u) (hv : c.P.underlying yt = some (.float k')) (hx : ev E x = some (.float s p)) (hr : floatToFloatBits s p k' = some r) : PR c E H ⟨some d, .convert xt yt x, ty, pos, af, g⟩ (.float k' r) :=
  (fun a w hs => by
    have := run_convert_float_float (P := c.P) w xt yt s k' p r (by obtain ⟨u, hu⟩ := hu; rw [hu]; rfl) hv hr
    simp [execOp, hs.ev hx, this])
theorem r_convFF {s k' : FloatKind} {r : Nat} (hu : ∃ u, c.P.underlying xt = some u) (hv : c.P.underlying yt = some (.float k')) (hg : gdB ops E g = some true) (hd : Nat.blt d c.n = true) (hx : ev E x = some (.float s p)) (hr : floatToFloatBits s p k' = some r)
    (k : K c (wpList c.P ops Q rest) ((d, .float k' r) :: E) H) : K c (wpList c.P ops Q (⟨some d, .convert xt yt x, ty, pos, af, g⟩ :: rest)) E H :=
  op_pure hg hd (fun a w hs => by
    have := run_convert_float_float (P := c.P) w xt yt s k' p r (by obtain ⟨u, hu⟩ := hu; rw [hu]; rfl) hv hr
    simp [execOp, hs.ev hx, this]) k
theorem p_convFI {s : FloatKind} {k' : IntKind} {r : Int} (hu : ∃ u, c.P.underlying xt = some u) (hv : c.P.underlying yt = some (.int k')) (hx : ev E x = some (.float s p)) (hr : floatToIntVal s p k' = some r) : PR c E H ⟨some d, .convert xt yt x, ty, pos, af, g⟩ (.int k' r) :=
  (fun a w hs => by
    have := run_convert_float_int (P := c.P) w xt yt s k' p r (by obtain ⟨u, hu⟩ := hu; rw [hu]; rfl) hv hr
    simp [execOp, hs.ev hx, this])
theorem r_convFI {s : FloatKind} {k' : IntKind} {r : Int} (hu : ∃ u, c.P.underlying xt = some u) (hv : c.P.underlying yt = some (.int k')) (hg : gdB ops E g = some true) (hd : Nat.blt d c.n = true) (hx : ev E x = some (.float s p)) (hr : floatToIntVal s p k' = some r)
    (k : K c (wpList c.P ops Q rest) ((d, .int k' r) :: E) H) : K c (wpList c.P ops Q (⟨some d, .convert xt yt x, ty, pos, af, g⟩ :: rest)) E H :=
  op_pure hg hd (fun a w hs => by
    have := run_convert_float_int (P := c.P) w xt yt s k' p r (by obtain ⟨u, hu⟩ := hu; rw [hu]; rfl) hv hr
    simp [execOp, hs.ev hx, this]) k
end
end Go.Sl
