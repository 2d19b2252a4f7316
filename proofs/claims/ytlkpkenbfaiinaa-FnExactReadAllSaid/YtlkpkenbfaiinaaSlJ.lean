/- Floats as they are compared and converted: what is no number, what is made wider; body-less functions that only reckon. -/
import Derived.Test.YtlkpkenbfaiinaaSlI
namespace Go.Sl

def isNaN (f : Ieee.Format) (p : Nat) : Bool := (f.read p).isNaN
def nan (p : Nat) : Bool := isNaN Ieee.single p
def nan64 (p : Nat) : Bool := isNaN Ieee.double p
def flt64 (p q : Nat) : Bool := Ieee.double.order p q == some .lt
def feq64 (p q : Nat) : Bool := Ieee.double.order p q == some .eq

theorem order_self (f : Ieee.Format) (p : Nat) : (f.order p p == some .eq) = !(isNaN f p) := by
  unfold Ieee.Format.order Ieee.Datum.order isNaN
  cases f.read p with
  | number s m i => simp [Ieee.Datum.isNaN]
  | infinity s => simp [Ieee.Datum.isNaN]
  | nan s t => simp [Ieee.Datum.isNaN]
theorem feq_self (p : Nat) : feq p p = !(nan p) := order_self _ p
theorem feq64_self (p : Nat) : feq64 p p = !(nan64 p) := order_self _ p

theorem order_nan (f : Ieee.Format) (p q : Nat) : f.order p q = none ↔ (isNaN f p = true ∨ isNaN f q = true) := by
  unfold Ieee.Format.order Ieee.Datum.order isNaN
  cases f.read p <;> cases f.read q <;> simp [Ieee.Datum.isNaN]

theorem feq64_zero {p : Nat} (h : feq64 p 0 = true) : ∃ t i, Ieee.double.read p = .number t 0 i := by
  unfold feq64 Ieee.Format.order at h
  have h0 : Ieee.double.read 0 = .number false 0 (-1074) := by decide
  rw [h0] at h
  unfold Ieee.Datum.order at h
  cases hp : Ieee.double.read p with
  | number s m i =>
    rw [hp] at h
    simp only [beq_iff_eq, Option.some.injEq, Int.compare_eq_eq] at h
    refine ⟨s, i, ?_⟩
    have hm : m = 0 := by
      unfold Ieee.signed at h
      cases s with
      | true =>
        simp only [Bool.false_eq_true, if_true, if_false, Nat.zero_shiftLeft] at h
        have : m <<< (i - min i (-1074)).toNat = 0 := by omega
        rw [Nat.shiftLeft_eq] at this
        rcases Nat.mul_eq_zero.1 this with h | h
        · exact h
        · have := Nat.two_pow_pos (i - min i (-1074)).toNat; omega
      | false =>
        simp only [Bool.false_eq_true, if_false, Nat.zero_shiftLeft] at h
        have : m <<< (i - min i (-1074)).toNat = 0 := by omega
        rw [Nat.shiftLeft_eq] at this
        rcases Nat.mul_eq_zero.1 this with h | h
        · exact h
        · have := Nat.two_pow_pos (i - min i (-1074)).toNat; omega
    rw [hm]
  | infinity s => rw [hp] at h; cases s <;> simp at h
  | nan s t => rw [hp] at h; simp at h

theorem quo64_zero {p : Nat} (h : feq64 p 0 = true) : ∃ r, floatBits .quo .f64 4607182418800017408 p = some r := by
  obtain ⟨t, i, hp⟩ := feq64_zero h
  have h1 : Ieee.double.read 4607182418800017408 = .number false 4503599627370496 (-52) := by decide
  refine ⟨Ieee.double.write (.infinity (false ^^ t)), ?_⟩
  show Ieee.double.div 4607182418800017408 p = some _
  unfold Ieee.Format.div
  rw [hp, h1]
  rfl

section
variable {xt : TypeId} {p q : Nat} {P : Program} {w : World}
theorem run64_fgt : (binOp .gtr xt (.float .f64 p) (.float .f64 q)).run P w = .ok (.bool (Ieee.double.order p q == some .gt)) w := by
  simp [binOp, Op.floatCmp]; rfl
theorem run64_feq : (binOp .eql xt (.float .f64 p) (.float .f64 q)).run P w = .ok (.bool (feq64 p q)) w := by
  simp [binOp, Op.floatCmp]; rfl
theorem run64_fne : (binOp .neq xt (.float .f64 p) (.float .f64 q)).run P w = .ok (.bool (!feq64 p q)) w := by
  simp [binOp, Op.floatCmp]; rfl
end

/- a wider float -/
def w64 (p : Nat) : Nat := (floatToFloatBits .f32 p .f64).getD 0

theorem cut_zero (way : Ieee.Toward) (neg : Bool) (n : Nat) : way.cut neg n 0 = n := by
  unfold Ieee.Toward.cut
  cases way <;> cases neg <;> simp [Nat.mod_one]

theorem double_rung (neg : Bool) (r : Nat) (h : r < Ieee.double.signWeight) : (Ieee.double.word neg r) % Ieee.double.signWeight = r := by
  unfold Ieee.Format.word
  cases neg with
  | true => simp [Nat.mod_eq_of_lt h]
  | false => simp [Nat.mod_eq_of_lt h]

theorem read_lt_inf (r : Nat) (neg : Bool) (h : r < Ieee.double.infRung) : ∃ m e, Ieee.double.read (Ieee.double.word neg r) = .number (((Ieee.double.word neg r) / Ieee.double.signWeight % 2) == 1) m e := by
  have hs : r < Ieee.double.signWeight := Nat.lt_trans h (Ieee.double.infRung_lt)
  unfold Ieee.Format.read
  simp only [double_rung neg r hs]
  split
  · exact ⟨_, _, rfl⟩
  · exact ⟨_, _, rfl⟩

theorem single_number {p : Nat} {s : Bool} {m : Nat} {e : Int} (h : Ieee.single.read p = .number s m e) : m < 16777216 ∧ -149 ≤ e ∧ e ≤ 104 := by
  unfold Ieee.Format.read at h
  have hb : Ieee.single.binade = 8388608 := by decide
  have hi : Ieee.single.infRung = 2139095040 := by decide
  have hl : Ieee.single.leastPlace = -149 := by decide
  simp only [hb, hi, hl] at h
  split at h
  · simp only [Ieee.Datum.number.injEq] at h
    omega
  · split at h
    · simp only [Ieee.Datum.number.injEq] at h
      omega
    · split at h <;> cases h

theorem wide_rung {m : Nat} {e : Int} (hm : m < 16777216) (h0 : m ≠ 0) (h1 : -149 ≤ e) (h2 : e ≤ 104) (neg : Bool) :
    ∃ r, r < Ieee.double.infRung ∧ Ieee.double.nearest neg m e = Ieee.double.word neg r := by
  have hb : Ieee.double.binade = 4503599627370496 := by decide
  have hi : Ieee.double.infRung = 9218868437227405312 := by decide
  have hl : Ieee.double.leastPlace = -1074 := by decide
  have hfb : Ieee.double.fractionBits = 52 := by decide
  unfold Ieee.Format.nearest
  rw [if_neg h0]
  simp only [hb, hi, hl, hfb]
  have hL : m.log2 < 24 := (Nat.log2_lt h0).2 (by simpa using hm)
  have hmax : max (e + ↑m.log2 - ((52 : Nat) : Int)) (-1074) = e + ↑m.log2 - 52 := by omega
  rw [hmax]
  have e1 : (e + ↑m.log2 - 52 - e).toNat = 0 := by omega
  have e2 : (e - (e + ↑m.log2 - 52)).toNat = 52 - m.log2 := by omega
  rw [e1, e2, cut_zero, Nat.shiftLeft_eq]
  have hlt : m < 2 ^ (m.log2 + 1) := Nat.lt_log2_self
  have hk : m * 2 ^ (52 - m.log2) < 2 ^ 53 := by
    have : 2 ^ 53 = 2 ^ (m.log2 + 1) * 2 ^ (52 - m.log2) := by rw [← Nat.pow_add]; congr 1; omega
    rw [this]
    exact Nat.mul_lt_mul_of_pos_right hlt (Nat.two_pow_pos _)
  have e3 : (e + ↑m.log2 - 52 - -1074).toNat ≤ 1149 := by omega
  have e4 : (e + ↑m.log2 - 52 - -1074).toNat * 4503599627370496 ≤ 1149 * 4503599627370496 := Nat.mul_le_mul_right _ e3
  have hk' : m * 2 ^ (52 - m.log2) < 9007199254740992 := hk
  refine ⟨_, ?_, rfl⟩
  have fin : ∀ K L : Nat, K < 9007199254740992 → L ≤ 1149 * 4503599627370496 → min (L + K) 9218868437227405312 < 9218868437227405312 := by
    intro K L a b; omega
  exact fin _ _ hk' e4

theorem w64_ok {p : Nat} (hn : nan p = false) : floatToFloatBits .f32 p .f64 = some (w64 p) ∧ nan64 (w64 p) = false := by
  have key : ∃ r, floatToFloatBits .f32 p .f64 = some r ∧ nan64 r = false := by
    unfold floatToFloatBits
    rw [if_neg (by decide)]
    show ∃ r, (match Ieee.single.read p with
      | .nan _ _ => none
      | .infinity s => some (FloatKind.f64.encode (.infinity s))
      | .number s m e => if (FloatKind.f64.decode (FloatKind.f64.encode (.number s m e))).isInfinity then none else some (FloatKind.f64.encode (.number s m e))) = some r ∧ _
    cases hp : Ieee.single.read p with
    | nan s t => unfold nan isNaN at hn; rw [hp] at hn; cases hn
    | infinity s => refine ⟨_, rfl, ?_⟩; cases s <;> decide
    | number s m e =>
      obtain ⟨h1, h2, h3⟩ := single_number hp
      have hr : ∃ r, r < Ieee.double.infRung ∧ FloatKind.f64.encode (.number s m e) = Ieee.double.word s r := by
        by_cases h0 : m = 0
        · subst h0
          exact ⟨0, by decide, by show Ieee.double.nearest s 0 e = _; unfold Ieee.Format.nearest; rw [if_pos rfl]⟩
        · exact wide_rung h1 h0 h2 h3 s
      obtain ⟨r, hr1, hr2⟩ := hr
      obtain ⟨m', e', hrd⟩ := read_lt_inf r s hr1
      refine ⟨Ieee.double.word s r, ?_, ?_⟩
      · have hrd' : FloatKind.f64.decode (Ieee.double.word s r) = .number (((Ieee.double.word s r) / Ieee.double.signWeight % 2) == 1) m' e' := hrd
        simp only [hr2, hrd']
        simp [Ieee.Datum.isInfinity]
      · unfold nan64 isNaN
        rw [hrd]; rfl
  obtain ⟨r, h1, h2⟩ := key
  have : w64 p = r := by unfold w64; rw [h1]; rfl
  rw [this]; exact ⟨h1, h2⟩

theorem nan_cut (p t : Nat) : nan64 ((Question.nanConv .f64 p).cut t) = true := by
  show isNaN Ieee.double ((t % 2) * 2 ^ 63 + 0x7ff0000000000000 + 1 + (t / 2) % (2 ^ 52 - 1)) = true
  unfold isNaN Ieee.Format.read
  have hs : Ieee.double.signWeight = 9223372036854775808 := by decide
  have hb : Ieee.double.binade = 4503599627370496 := by decide
  have hi : Ieee.double.infRung = 9218868437227405312 := by decide
  simp only [hs, hb, hi]
  have h1 : (t / 2) % (2 ^ 52 - 1) < 4503599627370495 := Nat.mod_lt _ (by decide)
  have h2 : t % 2 < 2 := Nat.mod_lt _ (by decide)
  generalize (t / 2) % (2 ^ 52 - 1) = a at *
  generalize t % 2 = b at *
  have h3 : (b * 2 ^ 63 + 0x7ff0000000000000 + 1 + a) % 9223372036854775808 = 9218868437227405312 + 1 + a := by omega
  rw [h3, if_neg (by omega), if_neg (by omega), if_neg (by omega)]
  rfl

section
variable {c : Ctx} {E : Env} {H H' : Hp} {Q : Exit → Act → World → Prop} {ops : Array Oper} {rest : List Oper} {d : Nat} {ty : TypeId} {pos : String} {af : Array Edge} {g : Option (Nat × Bool)} {x y z : Operand} {xt yt : TypeId}

/-- what is no number, made wider: some NaN -/
theorem r_convNaN {p : Nat} (hu : ∃ u, c.P.underlying xt = some u) (hv : c.P.underlying yt = some (.float .f64)) (hg : gdB ops E g = some true) (hd : Nat.blt d c.n = true) (hx : ev E x = some (.float .f32 p)) (hn : nan p = true)
    (k : ∀ r, nan64 r = true → K c (wpList c.P ops Q rest) ((d, .float .f64 r) :: E) H) : K c (wpList c.P ops Q (⟨some d, .convert xt yt x, ty, pos, af, g⟩ :: rest)) E H :=
  op_step hg fun a w hs => by
    obtain ⟨u, hu⟩ := hu
    have hdec : ∃ s t, FloatKind.f32.decode p = .nan s t := by
      unfold nan isNaN at hn
      show ∃ s t, Ieee.single.read p = .nan s t
      cases hp : Ieee.single.read p with
      | nan s t => exact ⟨s, t, rfl⟩
      | _ => rw [hp] at hn; cases hn
    obtain ⟨s, t, hdec⟩ := hdec
    have hr : (execOp a.eval ⟨some d, .convert xt yt x, ty, pos, af, g⟩).run c.P w = .ok (.value (.float .f64 ((Question.nanConv .f64 p).cut (w.tape w.drawn (Question.nanConv .f64 p))))) w.drew := by
      cases u <;> simp [execOp, hs.ev hx, convert, run_underlying hu, run_underlying hv, Conv.floatToFloat, hdec, choose, Sem.run, Question.forced]
    unfold Oper.wp
    rw [hr, Oper.upon_value]
    exact k _ (nan_cut p _) _ _ ((hs.world (w' := w.drew) ⟨rfl, rfl, rfl, Nat.le_refl _, fun _ _ _ => rfl⟩).put hd _)

theorem s_fcmp64 {op : BinOp} {t : Bool} {p q : Nat} (hg : gdB ops E g = some true) (hd : Nat.blt d c.n = true) (hx : ev E x = some (.float .f64 p)) (hy : ev E y = some (.float .f64 q))
    (h2 : ∀ (P : Program) (w : World), (binOp op xt (.float .f64 p) (.float .f64 q)).run P w = .ok (.bool t) w)
    (h3 : t = true → K c (wpList c.P ops Q rest) ((d, .bool true) :: E) H) (h4 : t = false → K c (wpList c.P ops Q rest) ((d, .bool false) :: E) H) :
    K c (wpList c.P ops Q (⟨some d, .binOp op xt x y yt, ty, pos, af, g⟩ :: rest)) E H :=
  op_fcmp hg hd hx hy (fun w => h2 _ w) h3 h4

/-- a body-less function that only reckons -/
theorem p_extern {f : FuncId} {fo : Operand} {xs : List Operand} {ats : Array TypeId} {first cap : List Value} {vs args : List Value} {v : Value}
    (hrun : ∀ w, (callFunc f args.toArray).run c.P w = .ok (.value v) w) (hfo : ev E fo = some (.func (.func f) first.toArray cap.toArray)) (hxs : evs E xs = some vs) (hargs : first ++ vs ++ cap = args) :
    PR c E H ⟨some d, .call ⟨.value fo, xs.toArray, ats⟩, ty, pos, af, g⟩ v := fun a w hs => by
  have h1 := hs.evs hxs
  have e : (first.toArray ++ vs.toArray ++ cap.toArray) = args.toArray := by rw [← hargs]; simp
  have h2 := hrun w
  rw [← e] at h2
  simp only [execOp, resolve, hs.ev hfo, List.map_toArray, h1, Deferred.ofValue]
  simp only [Sem.run_bind, Sem.run_pure, Result.andThen, invoke]
  exact h2
end
end Go.Sl
