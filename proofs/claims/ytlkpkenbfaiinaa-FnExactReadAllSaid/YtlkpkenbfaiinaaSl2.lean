/- Rows of structs: appended to, read; goods. -/
import Derived.Test.YtlkpkenbfaiinaaSl1
namespace Go.Sl
section
variable {c : Ctx} {E : Env} {H H' : Hp} {Q : Exit → Act → World → Prop} {ops : Array Oper} {rest : List Oper} {d b b2 : Nat} {t ty u u2 : TypeId} {pos : String} {af : Array Edge} {g : Option (Nat × Bool)} {x y : Operand} {fr : Nat × Nat}
/-- one thing of several cells appended -/
theorem r_appendG {α : Type} {f : α → List Value} {sz : Nat} (hf : ∀ a, (f a).length = sz) (ho : ∀ a, (f a).all one = true) {p : α} {len cap by_ : Nat} {e xt : TypeId} {zl junk : List Value} {rs : List α} (ha : sliceB c.P t = some e) (ha2 : sliceB c.P xt = some e) (hz : szB c.P e = some sz) (hzr : zeroB c.P e = some zl) (hzl : Nat.beq zl.length sz = true) (hby : bytesB c.P e = some by_) (hbp : Nat.blt 0 by_ = true)
    (hg : gdB ops E g = some true) (hd : Nat.blt d c.n = true)
    (hx : ev E x = some (.slice (some ⟨b, 0, none⟩) len cap)) (hy : ev E y = some (.slice (some ⟨b2, 0, none⟩) 1 1)) (hsrc : In (b2, .cells (f p).toArray u2 fr) c.X H) (hrem : Rem (b, .cells (fm f rs ++ junk).toArray u (0, 0)) H H')
    (hxs : rs.length = len) (hcap : len * sz + junk.length = cap * sz) (hbig : (2 * (len + 1) + 768) * by_ ≤ 281474976710656)
    (k : ∀ b' cap' junk' u', (len + 1) * sz + junk'.length = cap' * sz → len + 1 ≤ cap' → K c (wpList c.P ops Q rest) ((d, .slice (some ⟨b', 0, none⟩) (len + 1) cap') :: E) ((b', .cells (fm f (rs ++ [p]) ++ junk').toArray u' (0, 0)) :: H')) :
    K c (wpList c.P ops Q (⟨some d, .call ⟨.builtin .append, #[x, y], #[t, xt]⟩, ty, pos, af, g⟩ :: rest)) E H :=
  r_append (ys := f p) ha ha2 hz hzr hzl hby hbp hg hd hx hy (.s hsrc (by
    unfold takeAt
    rw [if_pos (by rw [hf]; omega), List.drop_zero, Nat.one_mul, List.take_of_length_le (by rw [hf]; omega)])) hrem (by rw [fm_len hf, hxs]) (by rw [List.length_append, fm_len hf, hxs, hcap]) (ho p) hbig (fun b' cap' junk' u' h1 h2 => by
    have := k b' cap' junk' u' (by simp only [List.length_append, fm_len hf, hf, hxs] at h1; rw [Nat.succ_mul]; omega) h2
    rw [fm_append, fm_one] at this
    exact this)
end
theorem take_get {l vs : List Value} {o sz m : Nat} (h : takeAt l o sz = some vs) (hm : m < sz) : l[o + m]? = vs[m]? := by
  unfold takeAt at h
  split at h
  · simp only [Option.some.injEq] at h
    rw [← h, List.getElem?_take, if_pos hm, List.getElem?_drop]
  · cases h
/-- a row of copies, in any form of its cells -/
theorem zG {α : Type} (f : α → List Value) (z : α) (es : List α) (n : Nat) : (List.replicate n (f z)).flatten = fm f (cpG z es 0 n) := by
  rw [cpG_zero, fm_rep]

/- goods -/
abbrev Gd := Nat × Nat
def gd (g : Gd) : List Value := [.float .f32 g.1, .float .f32 g.2]
theorem gd_len (g : Gd) : (gd g).length = 2 := rfl
theorem gd_one (g : Gd) : (gd g).all one = true := rfl
abbrev gz : Gd := (0, 0)
def validG (g : Gd) : Bool := isPart g.1 && isPart g.2
def gCode (es : List Gd) : Int := if es.all validG then (if 7 < es.length then 3 else 0) else 1
def sumG (es : List Gd) : Nat → Nat
  | 0 => 0
  | k + 1 => fadd (sumG es k) (es.getD k gz).1
theorem getD_all {α : Type} {es : List α} {p : α → Bool} (h : es.all p = true) {i : Nat} (hi : i < es.length) (d : α) : p (es.getD i d) = true := by
  have := List.all_eq_true.1 h (es[i]) (List.getElem_mem hi)
  simpa [List.getD_eq_getElem?_getD, hi] using this
theorem sumG_nn {es : List Gd} (h : es.all validG = true) : ∀ k, k ≤ es.length → nn (sumG es k) = true
  | 0, _ => nn_zero
  | k + 1, hk => by
    have := getD_all h (i := k) (by omega) gz
    unfold validG at this
    rw [Bool.and_eq_true] at this
    exact (nn_add (sumG_nn h k (by omega)) (part_nn this.1)).2
theorem sumG_add {es : List Gd} (h : es.all validG = true) {k : Nat} (hk : k < es.length) : floatBits .add .f32 (sumG es k) (es.getD k gz).1 = some (sumG es (k + 1)) := by
  have := getD_all h (i := k) hk gz
  unfold validG at this
  rw [Bool.and_eq_true] at this
  exact (nn_add (sumG_nn h k (by omega)) (part_nn this.1)).1
def shareG (es : List Gd) : Bool := allN es.length fun i => !flt (es.getD i gz).2 (sumG es es.length)
def mayG (es : List Gd) : Bool := if gCode es = 0 then shareG es else false
end Go.Sl
namespace Go.Sl
def szL (left : Int) (len : Nat) : Int := if left - (len : Int) < 0 then -1 else left - (len : Int)
theorem szL_iff {left : Int} {len : Nat} (h : 0 ≤ left) : szL left len < 0 ↔ left < (len : Int) := by
  unfold szL
  split <;> omega
theorem szL_eq {left : Int} {len : Nat} (h : ¬ szL left len < 0) : szL left len = left - (len : Int) := by
  unfold szL at *
  split at h
  · omega
  · rename_i h1; rw [if_neg h1]
theorem zI (es : List Int) {n : Nat} : (List.replicate n [Value.int .i64 0]).flatten = il (cpG 0 es 0 n) := by
  have h := fm_rep (f := fun p => [Value.int .i64 p]) 0 n
  rw [il_fm]
  refine h.trans ?_
  rw [cpG_zero]
theorem not_any {α : Type} (p : α → Bool) (es : List α) : (!es.any p) = es.all (fun a => !p a) := by
  induction es with
  | nil => rfl
  | cons e es ih => rw [List.any_cons, List.all_cons, Bool.not_or, ih]
theorem shareG_any (es : List Gd) : (!es.any fun g => flt g.2 (sumG es es.length)) = shareG es := by
  rw [not_any]
  unfold shareG
  exact (allN_all gz (fun g : Gd => !flt g.2 (sumG es es.length)) es).symm
/-- the goods in hold h -/
def inH (es : List Gd) (hs : List Int) (h : Int) : Nat → List Gd
  | 0 => []
  | k + 1 => if hs.getD k 0 = h then inH es hs h k ++ [es.getD k gz] else inH es hs h k
theorem inH_t {es : List Gd} {hs : List Int} {h : Int} {k : Nat} (e : hs.getD k 0 = h) : inH es hs h k ++ [es.getD k gz] = inH es hs h (k + 1) := by rw [inH, if_pos e]
theorem inH_f {es : List Gd} {hs : List Int} {h : Int} {k : Nat} (e : ¬ hs.getD k 0 = h) : inH es hs h k = inH es hs h (k + 1) := by rw [inH, if_neg e]
theorem inH_le {es : List Gd} {hs : List Int} {h : Int} : ∀ k, (inH es hs h k).length ≤ k
  | 0 => by simp [inH]
  | k + 1 => by
    rw [inH]
    have := inH_le (es := es) (hs := hs) (h := h) k
    split
    · simp; omega
    · omega
theorem inH_valid {es : List Gd} {hs : List Int} {h : Int} (hv : es.all validG = true) : ∀ k, k ≤ es.length → (inH es hs h k).all validG = true
  | 0, _ => rfl
  | k + 1, hk => by
    rw [inH]
    have := inH_valid (hs := hs) (h := h) hv k (by omega)
    split
    · rw [List.all_append, this, Bool.true_and]
      simp only [List.all_cons, List.all_nil, Bool.and_true]
      exact getD_all hv (by omega) gz
    · exact this
def rightG (es : List Gd) (hs : List Int) : Bool := decide (hs.length = es.length) && (allN hs.length (fun i => inR (hs.getD i 0) 0 6) && allN 7 (fun k => shareG (inH es hs (k : Int) hs.length)))
def chkG (es : List Gd) (hs : List Int) : Bool := if gCode es = 0 then rightG es hs else false
theorem gCode_valid {es : List Gd} (h : gCode es = 0) : es.all validG = true ∧ es.length ≤ 7 := by
  unfold gCode at h
  split at h
  · rename_i h1
    split at h
    · cases h
    · exact ⟨h1, by omega⟩
  · cases h
end Go.Sl
namespace Go.Sl
/- looks and orders -/
abbrev Lk := Nat × Nat × Nat
def lk (g : Lk) : List Value := [.float .f32 g.1, .float .f32 g.2.1, .float .f32 g.2.2]
theorem lk_len (g : Lk) : (lk g).length = 3 := rfl
theorem lk_one (g : Lk) : (lk g).all one = true := rfl
abbrev lz : Lk := (0, 0, 0)
abbrev Od := Int × Nat × Nat
def od (g : Od) : List Value := [.int .i8 g.1, .float .f32 g.2.1, .float .f32 g.2.2]
theorem od_len (g : Od) : (od g).length = 3 := rfl
theorem od_one (g : Od) : (od g).all one = true := rfl
abbrev oz : Od := (0, 0, 0)
end Go.Sl
namespace Go.Sl
theorem gd_leafs {e : List Value} (h : Leafs [.float .f32, .float .f32] e) : ∃ a : Gd, e = gd a := by
  obtain ⟨p, r, rfl, _, q, s, rfl, _, hr⟩ := h
  simp only [Leafs] at hr
  subst hr
  exact ⟨(p, q), rfl⟩
theorem lk_leafs {e : List Value} (h : Leafs [.float .f32, .float .f32, .float .f32] e) : ∃ a : Lk, e = lk a := by
  obtain ⟨p, r, rfl, _, q, s, rfl, _, x, t, rfl, _, hr⟩ := h
  simp only [Leafs] at hr
  subst hr
  exact ⟨(p, q, x), rfl⟩
theorem od_leafs {e : List Value} (h : Leafs [.int .i8, .float .f32, .float .f32] e) : ∃ a : Od, e = od a := by
  obtain ⟨p, r, rfl, _, q, s, rfl, _, x, t, rfl, _, hr⟩ := h
  simp only [Leafs] at hr
  subst hr
  exact ⟨(p, q, x), rfl⟩
end Go.Sl
