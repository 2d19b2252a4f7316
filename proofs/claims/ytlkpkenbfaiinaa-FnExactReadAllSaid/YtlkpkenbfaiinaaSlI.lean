/- Rows of floats and of whole numbers: how they are read, written, appended to; floats of both widths. -/
import Derived.Test.YtlkpkenbfaiinaaSlR
import Derived.Test.YtlkpkenbfaiinaaSlH
namespace Go.Sl

def il (l : List Int) : List Value := l.map (Value.int .i64)

structure RowV where
  b : Nat
  cap : Nat
  junk : List Value
  u : TypeId

theorem fl_length (k : FloatKind) (l : List Nat) : (fl k l).length = l.length := by simp [fl]
theorem il_length (l : List Int) : (il l).length = l.length := by simp [il]
theorem fl_append (k : FloatKind) (a b : List Nat) : fl k (a ++ b) = fl k a ++ fl k b := by simp [fl]
theorem il_append (a b : List Int) : il (a ++ b) = il a ++ il b := by simp [il]
theorem fl_one (k : FloatKind) (l : List Nat) : (fl k l).all one = true := by simp [fl, one]
theorem il_one (l : List Int) : (il l).all one = true := by simp [il, one]
theorem fl_get {k : FloatKind} {l : List Nat} {i : Nat} (h : i < l.length) : (fl k l)[i]? = some (.float k (l.getD i 0)) := by
  simp [fl, h, List.getD_eq_getElem?_getD]
theorem il_get {l : List Int} {i : Nat} (h : i < l.length) : (il l)[i]? = some (.int .i64 (l.getD i 0)) := by
  simp [il, h, List.getD_eq_getElem?_getD]
theorem fl_set (k : FloatKind) (l : List Nat) (i : Nat) (v : Nat) : (fl k l).set i (.float k v) = fl k (l.set i v) := by simp [fl, List.map_set]
theorem il_set (l : List Int) (i : Nat) (v : Int) : (il l).set i (.int .i64 v) = il (l.set i v) := by simp [il, List.map_set]
theorem fl_take (k : FloatKind) (l : List Nat) (i : Nat) : (fl k l).take i = fl k (l.take i) := by simp [fl, List.map_take]
theorem fl_drop (k : FloatKind) (l : List Nat) (i : Nat) : (fl k l).drop i = fl k (l.drop i) := by simp [fl, List.map_drop]
theorem il_take (l : List Int) (i : Nat) : (il l).take i = il (l.take i) := by simp [il, List.map_take]
theorem il_drop (l : List Int) (i : Nat) : (il l).drop i = il (l.drop i) := by simp [il, List.map_drop]

/- reading -/
theorem gF {k : FloatKind} {l : List Nat} {j : List Value} {i : Nat} (h : i < l.length) : (fl k l ++ j)[0 + i * 1]? = some (.float k (l.getD i 0)) := by
  rw [Nat.mul_one, Nat.zero_add, List.getElem?_append_left (by rw [fl_length]; exact h)]; exact fl_get h
theorem gI {l : List Int} {j : List Value} {i : Nat} (h : i < l.length) : (il l ++ j)[0 + i * 1]? = some (.int .i64 (l.getD i 0)) := by
  rw [Nat.mul_one, Nat.zero_add, List.getElem?_append_left (by rw [il_length]; exact h)]; exact il_get h
theorem gF0 {k : FloatKind} {l : List Nat} {i : Nat} (h : i < l.length) : (fl k l)[0 + i * 1]? = some (.float k (l.getD i 0)) := by
  rw [Nat.mul_one, Nat.zero_add]; exact fl_get h
theorem gI0 {l : List Int} {i : Nat} (h : i < l.length) : (il l)[0 + i * 1]? = some (.int .i64 (l.getD i 0)) := by
  rw [Nat.mul_one, Nat.zero_add]; exact il_get h
/-- a number, and an array of floats behind it -/
theorem gC {k : FloatKind} {v : Value} {l : List Nat} {i : Nat} (h : i < l.length) : (v :: fl k l)[0 + 1 + i * 1]? = some (.float k (l.getD i 0)) := by
  rw [Nat.mul_one, Nat.zero_add, Nat.add_comm]; simpa using fl_get h
theorem gC0 {k : FloatKind} {v : Value} {l : List Nat} : (v :: fl k l)[0 + 0]? = some v := rfl
theorem setC {k : FloatKind} {v : Value} {l : List Nat} {i p : Nat} : (v :: fl k l).set (0 + 1 + i * 1) (.float k p) = v :: fl k (l.set i p) := by
  rw [Nat.mul_one, Nat.zero_add, Nat.add_comm]; simp [fl_set]
theorem setF {k : FloatKind} {l : List Nat} {j : List Value} {i p : Nat} (h : i < l.length) : (fl k l ++ j).set (0 + i * 1) (.float k p) = fl k (l.set i p) ++ j := by
  rw [Nat.mul_one, Nat.zero_add, List.set_append_left _ _ (by rw [fl_length]; exact h), fl_set]
theorem setI {l : List Int} {j : List Value} {i : Nat} {p : Int} (h : i < l.length) : (il l ++ j).set (0 + i * 1) (.int .i64 p) = il (l.set i p) ++ j := by
  rw [Nat.mul_one, Nat.zero_add, List.set_append_left _ _ (by rw [il_length]; exact h), il_set]
theorem setF0 {k : FloatKind} {l : List Nat} {i p : Nat} : (fl k l).set (0 + i * 1) (.float k p) = fl k (l.set i p) := by
  rw [Nat.mul_one, Nat.zero_add, fl_set]
theorem setI0 {l : List Int} {i : Nat} {p : Int} : (il l).set (0 + i * 1) (.int .i64 p) = il (l.set i p) := by
  rw [Nat.mul_one, Nat.zero_add, il_set]
theorem takeC {k : FloatKind} {v : Value} {l : List Nat} {n : Nat} (h : l.length = n) : takeAt (v :: fl k l) (0 + 1) n = some (fl k l) := by
  unfold takeAt
  rw [if_pos (by simp [fl_length]; omega)]
  simp [← h, ← fl_length k l]
theorem takeC0 {k : FloatKind} {v : Value} {l : List Nat} {n : Nat} (h : l.length = n) : takeAt (v :: fl k l) 0 (n + 1) = some (v :: fl k l) := by
  unfold takeAt
  rw [if_pos (by simp [fl_length]; omega)]
  simp [← h, ← fl_length k l]
theorem takeF {k : FloatKind} {l : List Nat} {n : Nat} (h : l.length = n) : takeAt (fl k l) 0 n = some (fl k l) := by
  unfold takeAt
  rw [if_pos (by simp [fl_length]; omega)]
  simp [← h, ← fl_length k l]
theorem bltC {k : FloatKind} {v : Value} {l : List Nat} {i : Nat} (h : i < l.length) : Nat.blt (0 + 1 + i * 1) (v :: fl k l).length = true := by
  simp [Nat.blt_eq, fl_length]; omega
theorem bltF {k : FloatKind} {l : List Nat} {j : List Value} {i : Nat} (h : i < l.length) : Nat.blt (0 + i * 1) (fl k l ++ j).length = true := by
  simp [Nat.blt_eq, fl_length]; omega
theorem bltI {l : List Int} {j : List Value} {i : Nat} (h : i < l.length) : Nat.blt (0 + i * 1) (il l ++ j).length = true := by
  simp [Nat.blt_eq, il_length]; omega
theorem bltF0 {k : FloatKind} {l : List Nat} {i : Nat} (h : i < l.length) : Nat.blt (0 + i * 1) (fl k l).length = true := by
  simp [Nat.blt_eq, fl_length, h]
theorem bltI0 {l : List Int} {i : Nat} (h : i < l.length) : Nat.blt (0 + i * 1) (il l).length = true := by
  simp [Nat.blt_eq, il_length, h]

theorem zerosF {k : FloatKind} (n : Nat) : (List.replicate n [Value.float k 0]).flatten = fl k (List.replicate n 0) := by
  induction n with
  | zero => rfl
  | succ n ih => rw [List.replicate_succ, List.flatten_cons, ih]; rfl
theorem zerosI (n : Nat) : (List.replicate n [Value.int .i64 0]).flatten = il (List.replicate n 0) := by
  induction n with
  | zero => rfl
  | succ n ih => rw [List.replicate_succ, List.flatten_cons, ih]; rfl
theorem take_succ_getD {α : Type} {l : List α} {i : Nat} {d : α} (h : i < l.length) : l.take (i + 1) = l.take i ++ [l.getD i d] := by
  rw [List.take_add_one, List.getD_eq_getElem?_getD, List.getElem?_eq_getElem h]; simp
theorem drop_getD {α : Type} {l : List α} {i : Nat} {d : α} (h : i < l.length) : l.drop i = l.getD i d :: l.drop (i + 1) := by
  rw [List.drop_eq_getElem_cons h, List.getD_eq_getElem?_getD, List.getElem?_eq_getElem h]; simp

section
variable {c : Ctx} {E : Env} {H H' : Hp} {Q : Exit → Act → World → Prop} {ops : Array Oper} {rest : List Oper} {d : Nat} {ty : TypeId} {pos : String} {af : Array Edge} {g : Option (Nat × Bool)} {x y z : Operand}
variable {b b2 off : Nat} {t u u2 : TypeId} {fr : Nat × Nat} {v : Value}

/-- one float appended -/
theorem r_appendF {k0 : FloatKind} {p len cap by_ : Nat} {e xt : TypeId} {zl junk : List Value} {rs : List Nat} (ha : sliceB c.P t = some e) (ha2 : sliceB c.P xt = some e) (hz : szB c.P e = some 1) (hzr : zeroB c.P e = some zl) (hzl : Nat.beq zl.length 1 = true) (hby : bytesB c.P e = some by_) (hbp : Nat.blt 0 by_ = true)
    (hg : gdB ops E g = some true) (hd : Nat.blt d c.n = true)
    (hx : ev E x = some (.slice (some ⟨b, 0, none⟩) len cap)) (hy : ev E y = some (.slice (some ⟨b2, 0, none⟩) 1 1)) (hsrc : In (b2, .cells [Value.float k0 p].toArray u2 fr) c.X H) (hrem : Rem (b, .cells (fl k0 rs ++ junk).toArray u (0, 0)) H H')
    (hxs : rs.length = len) (hcap : len + junk.length = cap) (hbig : (2 * (len + 1) + 768) * by_ ≤ 281474976710656)
    (k : ∀ b' cap' junk' u', len + 1 + junk'.length = cap' → K c (wpList c.P ops Q rest) ((d, .slice (some ⟨b', 0, none⟩) (len + 1) cap') :: E) ((b', .cells (fl k0 (rs ++ [p]) ++ junk').toArray u' (0, 0)) :: H')) :
    K c (wpList c.P ops Q (⟨some d, .call ⟨.builtin .append, #[x, y], #[t, xt]⟩, ty, pos, af, g⟩ :: rest)) E H :=
  r_append (ys := [.float k0 p]) ha ha2 hz hzr hzl hby hbp hg hd hx hy (.s hsrc rfl) hrem (by rw [fl_length]; omega) (by rw [List.length_append, fl_length]; omega) rfl hbig (fun b' cap' junk' u' h1 h2 => by
    have := k b' cap' junk' u' (by simp only [List.length_append, fl_length, List.length_cons, List.length_nil] at h1; omega)
    rw [fl_append] at this
    exact this)

/-- one int appended -/
theorem r_appendI {p : Int} {len cap by_ : Nat} {e xt : TypeId} {zl junk : List Value} {rs : List Int} (ha : sliceB c.P t = some e) (ha2 : sliceB c.P xt = some e) (hz : szB c.P e = some 1) (hzr : zeroB c.P e = some zl) (hzl : Nat.beq zl.length 1 = true) (hby : bytesB c.P e = some by_) (hbp : Nat.blt 0 by_ = true)
    (hg : gdB ops E g = some true) (hd : Nat.blt d c.n = true)
    (hx : ev E x = some (.slice (some ⟨b, 0, none⟩) len cap)) (hy : ev E y = some (.slice (some ⟨b2, 0, none⟩) 1 1)) (hsrc : In (b2, .cells [Value.int .i64 p].toArray u2 fr) c.X H) (hrem : Rem (b, .cells (il rs ++ junk).toArray u (0, 0)) H H')
    (hxs : rs.length = len) (hcap : len + junk.length = cap) (hbig : (2 * (len + 1) + 768) * by_ ≤ 281474976710656)
    (k : ∀ b' cap' junk' u', len + 1 + junk'.length = cap' → K c (wpList c.P ops Q rest) ((d, .slice (some ⟨b', 0, none⟩) (len + 1) cap') :: E) ((b', .cells (il (rs ++ [p]) ++ junk').toArray u' (0, 0)) :: H')) :
    K c (wpList c.P ops Q (⟨some d, .call ⟨.builtin .append, #[x, y], #[t, xt]⟩, ty, pos, af, g⟩ :: rest)) E H :=
  r_append (ys := [.int .i64 p]) ha ha2 hz hzr hzl hby hbp hg hd hx hy (.s hsrc rfl) hrem (by rw [il_length]; omega) (by rw [List.length_append, il_length]; omega) rfl hbig (fun b' cap' junk' u' h1 h2 => by
    have := k b' cap' junk' u' (by simp only [List.length_append, il_length, List.length_cons, List.length_nil] at h1; omega)
    rw [il_append] at this
    exact this)
end

/-- the heap's list rewritten -/
theorem K_heq {c : Ctx} {R : Act → World → Prop} {E : Env} {H H' : Hp} (e : H = H') (h : K c R E H') : K c R E H := by rw [e]; exact h
end Go.Sl
