/- Marks that move to the means of their looks. -/
import Derived.Test.YtlkpkenbfaiinaaSl4
namespace Go.Sl
section
variable {c : Ctx} {E : Env} {H : Hp} {Q : Exit → Act → World → Prop} {ops : Array Oper} {rest : List Oper} {d : Nat} {xt yt ty : TypeId} {pos : String} {af : Array Edge} {g : Option (Nat × Bool)} {x y : Operand}
theorem run_eqNil {P : Program} {w : World} {e : TypeId} {ad : Addr} {n cap : Nat} (hu : sliceB P xt = some e) : (binOp .eql xt (.slice (some ad) n cap) (.slice none 0 0)).run P w = .ok (.bool false) w := by
  unfold sliceB at hu
  split at hu
  · rename_i e1 h
    have : ∀ m : Nat, (Op.equalIn (m + 1) xt (.slice (some ad) n cap) (.slice none 0 0)).run P w = .ok false w := fun m => by
      simp [Op.equalIn, run_underlying h]
    simp only [binOp]
    simp [Op.equal, Op.maxDepth, this 9999]
  · cases hu
/-- a slice that is not nil, compared with nil -/
theorem r_eqNil {e : TypeId} {ad : Addr} {n cap : Nat} (hu : sliceB c.P xt = some e) (hg : gdB ops E g = some true) (hd : Nat.blt d c.n = true) (hx : ev E x = some (.slice (some ad) n cap)) (hy : ev E y = some (.slice none 0 0))
    (k : K c (wpList c.P ops Q rest) ((d, .bool false) :: E) H) : K c (wpList c.P ops Q (⟨some d, .binOp .eql xt x y yt, ty, pos, af, g⟩ :: rest)) E H :=
  op_bin hg hd hx hy (fun _ => rfl) (fun _ => run_eqNil hu) k
end
def mapG {α : Type} (f : Nat → α) (k : Nat) : List α := (List.range k).map f
theorem mapG_succ {α : Type} (f : Nat → α) (k : Nat) : mapG f k ++ [f k] = mapG f (k + 1) := by unfold mapG; rw [List.range_succ, List.map_append]; rfl
theorem mapG_len {α : Type} (f : Nat → α) (k : Nat) : (mapG f k).length = k := by simp [mapG]
/-- the looks among the first j whose nearest mark is i -/
def ownL (ms ls : List Lk) (i : Nat) : Nat → List Lk
  | 0 => []
  | j + 1 => if nearTo ms (ls.getD j lz) ms.length = i then ownL ms ls i j ++ [ls.getD j lz] else ownL ms ls i j
theorem ownL_t {ms ls : List Lk} {i j : Nat} (h : nearTo ms (ls.getD j lz) ms.length = i) : ownL ms ls i j ++ [ls.getD j lz] = ownL ms ls i (j + 1) := by rw [ownL, if_pos h]
theorem ownL_f {ms ls : List Lk} {i j : Nat} (h : ¬ nearTo ms (ls.getD j lz) ms.length = i) : ownL ms ls i j = ownL ms ls i (j + 1) := by rw [ownL, if_neg h]
theorem ownL_le {ms ls : List Lk} {i : Nat} : ∀ j, (ownL ms ls i j).length ≤ j
  | 0 => by simp [ownL]
  | j + 1 => by
    rw [ownL]
    have := ownL_le (ms := ms) (ls := ls) (i := i) j
    split
    · simp; omega
    · omega
theorem ownL_valid {ms ls : List Lk} {i : Nat} (h : ls.all validL = true) : ∀ j, j ≤ ls.length → (ownL ms ls i j).all validL = true
  | 0, _ => rfl
  | j + 1, hj => by
    rw [ownL]
    have := ownL_valid (ms := ms) (i := i) h j (by omega)
    split
    · rw [List.all_append, this, Bool.true_and]
      simp only [List.all_cons, List.all_nil, Bool.and_true]
      exact getD_all h (by omega) lz
    · exact this
def mmF (ms ls : List Lk) (i : Nat) : Lk := if (ownL ms ls i ls.length).length = 0 then ms.getD i lz else meanL (ownL ms ls i ls.length)
theorem mmF_0 {ms ls : List Lk} {i : Nat} (h : (ownL ms ls i ls.length).length = 0) : ms.getD i lz = mmF ms ls i := by unfold mmF; rw [if_pos h]
theorem mmF_1 {ms ls : List Lk} {i : Nat} (h : ¬ (ownL ms ls i ls.length).length = 0) : meanL (ownL ms ls i ls.length) = mmF ms ls i := by unfold mmF; rw [if_neg h]
def mvL (ms : List Lk) (f : Nat → Lk) (k : Nat) : List Lk := mapG f k ++ ms.drop k
theorem mvL_zero {ms : List Lk} {f : Nat → Lk} : mvL ms f 0 = ms := rfl
theorem mvL_len {ms : List Lk} {f : Nat → Lk} {k : Nat} (h : k ≤ ms.length) : (mvL ms f k).length = ms.length := by unfold mvL; simp [mapG_len]; omega
theorem mvL_set {ms : List Lk} {f : Nat → Lk} {k : Nat} (h : k < ms.length) : (mvL ms f k).set k (f k) = mvL ms f (k + 1) := by
  unfold mvL
  rw [List.set_append_right _ _ (by rw [mapG_len]; omega), mapG_len, Nat.sub_self, drop_getD (d := lz) h, List.set_cons_zero, ← mapG_succ]
  simp
theorem mvL_keep {ms : List Lk} {f : Nat → Lk} {k : Nat} (h : k < ms.length) (h2 : ms.getD k lz = f k) : mvL ms f k = mvL ms f (k + 1) := by
  unfold mvL
  rw [drop_getD (d := lz) h, h2, ← mapG_succ]
  simp
theorem mvL_full {ms : List Lk} {f : Nat → Lk} {n : Nat} (h : ms.length = n) : mvL ms f n = mapG f n := by
  unfold mvL
  rw [List.drop_eq_nil_of_le (by omega)]; simp
/-- numbers written into looks -/
def mkK (v i : Nat) : Lk := (i2f (v + i * 3), i2f (v + i * 3 + 1), i2f (v + i * 3 + 1 + 1))
theorem put3 {l : List Value} {o : Nat} {x y z : Value} : ((l.set (o + 0) x).set (o + 1) y).set (o + 2) z = putL l o [x, y, z] := rfl
theorem mk_step {es : List Lk} {v k : Nat} {j : List Value} (h : k < es.length) :
    (((fm lk (mvL es (mkK v) k) ++ j).set (0 + k * 3 + 0) (.float .f32 (FloatKind.f32.nearest ((v + k * 3 : Nat) : Int)))).set (0 + k * 3 + 1) (.float .f32 (FloatKind.f32.nearest ((v + k * 3 : Nat) + 1 : Int)))).set (0 + k * 3 + 2) (.float .f32 (FloatKind.f32.nearest ((v + k * 3 : Nat) + 1 + 1 : Int))) = fm lk (mvL es (mkK v) (k + 1)) ++ j := by
  rw [put3]
  have e : [Value.float .f32 (FloatKind.f32.nearest ((v + k * 3 : Nat) : Int)), .float .f32 (FloatKind.f32.nearest ((v + k * 3 : Nat) + 1 : Int)), .float .f32 (FloatKind.f32.nearest ((v + k * 3 : Nat) + 1 + 1 : Int))] = lk (mkK v k) := rfl
  rw [e, fm_put lk_len _ (by rw [mvL_len (by omega)]; exact h), mvL_set h]
end Go.Sl
namespace Go.Sl
theorem mapG_at {α : Type} {f : Nat → α} {n i : Nat} {d : α} (h : i < n) : (mapG f n).getD i d = f i := by
  unfold mapG
  simp [h]
theorem takeG {α : Type} {f : α → List Value} {sz : Nat} (hf : ∀ a, (f a).length = sz) {es : List α} {j : List Value} : takeAt (fm f es ++ j) 0 (es.length * sz) = some (fm f es) := by
  have h := fm_len hf es
  unfold takeAt
  rw [if_pos (by rw [List.length_append]; omega), List.drop_zero, List.take_append_of_le_length (by omega), List.take_of_length_le (by omega)]
theorem all_one {α : Type} {f : α → List Value} (ho : ∀ a, (f a).all one = true) (es : List α) : (fm f es).all one = true := by
  unfold fm
  rw [List.all_flatMap]
  simp [ho]
/-- a fresh row and a code -/
def RowGC {α : Type} (f : α → List Value) (rs : List α) (sz : Nat) (code : Int) (v : Value) (H : Hp) : Prop := ∃ b cap junk u, v = packV [.slice (some ⟨b, 0, none⟩) rs.length cap, .int .i64 code] ∧ (rs.length * sz) + junk.length = cap * sz ∧ rs.length ≤ cap ∧ H = [(b, .cells (fm f rs ++ junk).toArray u (0, 0))]
end Go.Sl
