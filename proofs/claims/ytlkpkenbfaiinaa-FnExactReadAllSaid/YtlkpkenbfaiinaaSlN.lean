/- Any float made wider; rows of any floats copied and compared. -/
import Derived.Test.YtlkpkenbfaiinaaSlU
namespace Go.Sl

/-- z stands for p in double precision; where p is no number, z is none either -/
def Wide (p z : Nat) : Prop := nan64 z = nan p ∧ (nan p = false → z = w64 p)
section
variable {c : Ctx} {E : Env} {H H' : Hp} {Q : Exit → Act → World → Prop} {ops : Array Oper} {rest : List Oper} {d : Nat} {ty : TypeId} {pos : String} {af : Array Edge} {g : Option (Nat × Bool)} {x y z : Operand} {xt yt : TypeId}
theorem r_convW {p : Nat} (hu : ∃ u, c.P.underlying xt = some u) (hv : c.P.underlying yt = some (.float .f64)) (hg : gdB ops E g = some true) (hd : Nat.blt d c.n = true) (hx : ev E x = some (.float .f32 p))
    (k : ∀ r, Wide p r → K c (wpList c.P ops Q rest) ((d, .float .f64 r) :: E) H) : K c (wpList c.P ops Q (⟨some d, .convert xt yt x, ty, pos, af, g⟩ :: rest)) E H := by
  cases hn : nan p with
  | true => exact r_convNaN hu hv hg hd hx hn (fun r hr => k r ⟨by rw [hr, hn], fun h => by rw [hn] at h; cases h⟩)
  | false => exact r_convFF hu hv hg hd hx (w64_ok hn).1 (k _ ⟨by rw [(w64_ok hn).2, hn], fun _ => rfl⟩)
end
theorem Wide.eq {p a b : Nat} (ha : Wide p a) (hb : Wide p b) (h : nan p = false) : a = b := (ha.2 h).trans (hb.2 h).symm
end Go.Sl
namespace Go.Sl
/-- a row of things of several cells each -/
def fm {α : Type} (f : α → List Value) (es : List α) : List Value := es.flatMap f
section
variable {α : Type} {f : α → List Value} {sz : Nat}
theorem fm_len (hf : ∀ a, (f a).length = sz) : ∀ (es : List α), (fm f es).length = es.length * sz
  | [] => by simp [fm]
  | e :: es => by
    have := fm_len hf es
    unfold fm at *
    rw [List.flatMap_cons, List.length_append, hf, this, List.length_cons, Nat.succ_mul]; omega
theorem fm_cons (a : α) (es : List α) : fm f (a :: es) = f a ++ fm f es := by unfold fm; rw [List.flatMap_cons]
theorem fm_append (es fs : List α) : fm f (es ++ fs) = fm f es ++ fm f fs := by unfold fm; rw [List.flatMap_append]
theorem fm_one (a : α) : fm f [a] = f a := by simp [fm]
theorem fm_split (d : α) {es : List α} {i : Nat} (h : i < es.length) : fm f es = fm f (es.take i) ++ (f (es.getD i d) ++ fm f (es.drop (i + 1))) := by
  have e : es = es.take i ++ (es.getD i d :: es.drop (i + 1)) := by
    have h1 : es.getD i d = es[i] := by simp [h]
    rw [h1, ← List.drop_eq_getElem_cons h, List.take_append_drop]
  conv => lhs; rw [e]
  rw [fm_append, fm_cons]
theorem fm_take (hf : ∀ a, (f a).length = sz) (d : α) {es : List α} {i : Nat} (h : i < es.length) {j : List Value} : takeAt (fm f es ++ j) (0 + i * sz) sz = some (f (es.getD i d)) := by
  have hl : (fm f (es.take i)).length = 0 + i * sz := by rw [fm_len hf, List.length_take, Nat.min_eq_left (by omega), Nat.zero_add]
  have hlen := fm_len hf es
  have hle : (i + 1) * sz ≤ es.length * sz := Nat.mul_le_mul_right _ (by omega)
  rw [Nat.succ_mul] at hle
  unfold takeAt
  rw [if_pos (by rw [List.length_append, hlen]; omega), fm_split d h]
  simp only [List.append_assoc]
  rw [List.drop_append_of_le_length (by omega), List.drop_eq_nil_of_le (by omega), List.nil_append]
  rw [List.take_append_of_le_length (by rw [hf]; omega), List.take_of_length_le (by rw [hf]; omega)]
theorem fm_take' (hf : ∀ a, (f a).length = sz) (d : α) {es : List α} {i : Nat} (h : i < es.length) : takeAt (fm f es) (0 + i * sz) sz = some (f (es.getD i d)) := by
  have := fm_take hf d h (j := [])
  rwa [List.append_nil] at this
theorem fm_get (hf : ∀ a, (f a).length = sz) (d : α) {es : List α} {i m : Nat} (h : i < es.length) (hm : m < sz) {j : List Value} : (fm f es ++ j)[0 + i * sz + m]? = (f (es.getD i d))[m]? := by
  have := fm_take hf d h (j := j)
  unfold takeAt at this
  split at this
  · simp only [Option.some.injEq] at this
    rw [← this, List.getElem?_take, if_pos hm, List.getElem?_drop]
  · cases this
theorem putL_mid : ∀ (vs xs ws ys : List Value), vs.length = ws.length → putL (xs ++ (ws ++ ys)) xs.length vs = xs ++ (vs ++ ys)
  | [], xs, ws, ys, h => by
    cases ws with
    | nil => rfl
    | cons _ _ => simp at h
  | v :: vs, xs, ws, ys, h => by
    cases ws with
    | nil => simp at h
    | cons w ws =>
      unfold putL
      rw [List.set_append_right _ _ (Nat.le_refl _), Nat.sub_self]
      have := putL_mid vs (xs ++ [v]) ws ys (by simpa using h)
      simpa using this
theorem fm_put (hf : ∀ a, (f a).length = sz) {es : List α} {i : Nat} (a : α) (h : i < es.length) {j : List Value} : putL (fm f es ++ j) (0 + i * sz) (f a) = fm f (es.set i a) ++ j := by
  have hl : (fm f (es.take i)).length = 0 + i * sz := by rw [fm_len hf, List.length_take, Nat.min_eq_left (by omega), Nat.zero_add]
  rw [fm_split a h, ← hl, List.append_assoc, List.append_assoc, putL_mid _ _ _ _ (by rw [hf, hf])]
  rw [List.set_eq_take_append_cons_drop, if_pos h, fm_append, fm_cons]
  simp
theorem fm_put' (hf : ∀ a, (f a).length = sz) {es : List α} {i : Nat} (a : α) (h : i < es.length) : putL (fm f es) (0 + i * sz) (f a) = fm f (es.set i a) := by
  have := fm_put hf a h (j := [])
  rwa [List.append_nil, List.append_nil] at this
theorem fm_rep (z : α) (n : Nat) : (List.replicate n (f z)).flatten = fm f (List.replicate n z) := by
  unfold fm
  rw [List.flatMap_def, List.map_replicate]
/-- the first k copied, the rest zero -/
def cpG (z : α) (es : List α) (k n : Nat) : List α := es.take k ++ List.replicate (n - k) z
theorem cpG_zero (z : α) (es : List α) (n : Nat) : cpG z es 0 n = List.replicate n z := by simp [cpG]
theorem cpG_len {z : α} {es : List α} {k n : Nat} (hk : k ≤ n) (hl : es.length = n) : (cpG z es k n).length = n := by simp [cpG]; omega
theorem cpG_set {z d : α} {es : List α} {k n : Nat} (hk : k < n) (hl : es.length = n) : (cpG z es k n).set k (es.getD k d) = cpG z es (k + 1) n := by
  unfold cpG
  rw [List.set_append_right _ _ (by rw [List.length_take]; omega), take_succ_getD (d := d) (by omega)]
  have e : k - (es.take k).length = 0 := by simp; omega
  rw [e, show n - k = (n - (k + 1)) + 1 by omega, List.replicate_succ]
  simp
theorem cpG_full {z : α} {es : List α} {n : Nat} (hl : es.length = n) : cpG z es n n = es := by
  unfold cpG
  rw [← hl]; simp
theorem fm_bound (hf : ∀ a, (f a).length = sz) {es : List α} {i : Nat} (h : i < es.length) {j : List Value} : Nat.ble (0 + i * sz + sz) (fm f es ++ j).length = true := by
  have hle : (i + 1) * sz ≤ es.length * sz := Nat.mul_le_mul_right _ (by omega)
  rw [Nat.succ_mul] at hle
  rw [Nat.ble_eq, List.length_append, fm_len hf]; omega
theorem fm_bound' (hf : ∀ a, (f a).length = sz) {es : List α} {i : Nat} (h : i < es.length) : Nat.ble (0 + i * sz + sz) (fm f es).length = true := by
  have := fm_bound hf h (j := [])
  rwa [List.append_nil] at this
end
theorem fl_fm {k : FloatKind} (es : List Nat) : fl k es = fm (fun p => [Value.float k p]) es := by
  unfold fl fm
  induction es with
  | nil => rfl
  | cons e es ih => rw [List.map_cons, List.flatMap_cons, ← ih]; rfl
theorem il_fm (es : List Int) : il es = fm (fun p => [Value.int .i64 p]) es := by
  unfold il fm
  induction es with
  | nil => rfl
  | cons e es ih => rw [List.map_cons, List.flatMap_cons, ← ih]; rfl
/-- a fresh row, of things of sz cells each -/
def RowG {α : Type} (f : α → List Value) (rs : List α) (sz : Nat) (v : Value) (H : Hp) : Prop := ∃ b cap junk u, v = .slice (some ⟨b, 0, none⟩) rs.length cap ∧ (rs.length * sz) + junk.length = cap * sz ∧ rs.length ≤ cap ∧ H = [(b, .cells (fm f rs ++ junk).toArray u (0, 0))]
end Go.Sl
