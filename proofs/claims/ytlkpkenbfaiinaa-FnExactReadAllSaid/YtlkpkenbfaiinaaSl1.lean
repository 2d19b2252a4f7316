/- Append of zeros onto nil (Grow). -/
import Derived.Test.YtlkpkenbfaiinaaSlP
namespace Go.Sl
section
variable {c : Ctx} {E : Env} {H : Hp} {Q : Exit → Act → World → Prop} {ops : Array Oper} {rest : List Oper} {d : Nat} {t ty : TypeId} {pos : String} {af : Array Edge} {g : Option (Nat × Bool)} {x y : Operand}

theorem run_append_zeros {P : Program} {w : World} {e n sz by_ : Nat} {xt : TypeId} {zl : List Value} {kd kd2 : IntKind} (hu : P.underlying t = some (.slice e)) (hu2 : P.underlying xt = some (.int kd)) (hz : szB P e = some sz) (hzr : zeroB P e = some zl) (hby : bytesB P e = some by_) (hbp : 0 < by_) (hzl : zl.length = sz)
    (hn : 0 < n) (hn2 : n ≤ 9223372036854775807) (hsz : 0 < sz) (hbig : (2 * n + 768) * by_ ≤ 281474976710656) :
    ∃ (cap' : Nat) (junk : List Value), n ≤ cap' ∧ junk.length = cap' * sz ∧
    (Builtin.append_ #[t, xt] ty #[.slice none 0 0, .int kd2 (n : Int)]).run P w = .ok (.slice (some ⟨w.heap.size, 0, none⟩) n cap') { w.drew with heap := w.heap.push (.cells junk.toArray e (0, 0)) } := by
  unfold bytesB at hby
  cases hi : P.info? e with
  | none => rw [hi] at hby; cases hby
  | some i =>
    rw [hi] at hby
    simp at hby
    have hti : ∀ w, (typeInfo e).run P w = .ok i w := fun w => by simp [typeInfo, hi]
    have hnext := next_le (show 0 < n by omega)
    have hmul : Builtin.nextslicecap n 0 * i.bytes ≤ 281474976710656 := by
      rw [hby]
      exact Nat.le_trans (Nat.mul_le_mul_right _ hnext) hbig
    obtain ⟨zv, h1, h2⟩ := run_zero (P := P) (w := w.drew) hzr
    let cap' := (Question.appendCap n 0 e).cut (w.tape w.drawn (Question.appendCap n 0 e))
    have hc' : n ≤ cap' := by
      show n ≤ n + _ % _
      omega
    have hwr : IntKind.i64.wrap (n : Int) = (n : Int) := wrap_in (i64K (by omega) (by omega))
    have hm1 : ¬ (281474976710656 < (n : Int) * (i.bytes : Int)) := by
      have h3 : n * i.bytes ≤ 281474976710656 := by
        rw [hby]
        exact Nat.le_trans (Nat.mul_le_mul_right _ (by omega)) hbig
      have h4 : (n : Int) * (i.bytes : Int) = ((n * i.bytes : Nat) : Int) := by simp
      rw [h4]
      omega
    refine ⟨cap', (Builtin.zeroCells zv.cells n).toList ++ (Builtin.zeroCells zv.cells (cap' - n)).toList, hc', ?_, ?_⟩
    · rw [List.length_append, Array.length_toList, Array.length_toList, zeroCells_size, zeroCells_size, h2]
      simp only [List.size_toArray, hzl, ← Nat.add_mul]
      congr 1; omega
    · have hno : ¬ (281474976710656 < Builtin.nextslicecap n 0 * i.bytes) := by omega
      have hb0 : ¬ i.bytes = 0 := by omega
      have hns : ¬ (n * sz = 0) := by
        have := Nat.mul_pos hn hsz
        omega
      have hroom : ¬ n ≤ 0 := by omega
      have hn0 : ¬ ((n : Int) < 0) := by omega
      have hn3 : ¬ (9223372036854775807 < (n : Int)) := by omega
      have hne : n ≠ 0 := by omega
      simp [Builtin.append_, run_underlying hu, run_underlying hu2, run_sz hz, hroom, hti, hb0, hno, choose, Sem.run, Question.forced, h1, newRow, newObj, cap', hwr, asInt, asIntOf, hn0, hm1, hn3, hne, Nat.ne_of_gt hsz, Builtin.firstCells, loadCells]
      rw [if_neg hns]
      have e1 : ((Builtin.zeroCells zv.cells n).toList ++ (Builtin.zeroCells zv.cells (cap' - n)).toList).toArray = Builtin.zeroCells zv.cells n ++ Builtin.zeroCells zv.cells (cap' - n) := by
        apply Array.toList_inj.1
        simp
      rw [e1]
      rfl

/-- zeros appended onto nil: a new row, whatever it holds -/
theorem r_appendZ {n sz by_ : Nat} {e xt : TypeId} {zl : List Value} {kd kd2 : IntKind} (ha : sliceB c.P t = some e) (hu2 : c.P.underlying xt = some (.int kd)) (hz : szB c.P e = some sz) (hzr : zeroB c.P e = some zl) (hzl : Nat.beq zl.length sz = true) (hby : bytesB c.P e = some by_) (hbp : Nat.blt 0 by_ = true)
    (hg : gdB ops E g = some true) (hd : Nat.blt d c.n = true) (hx : ev E x = some (.slice none 0 0)) (hy : ev E y = some (.int kd2 (n : Int))) (hn : 0 < n) (hn2 : n ≤ 9223372036854775807) (hsz : 0 < sz) (hbig : (2 * n + 768) * by_ ≤ 281474976710656)
    (k : ∀ b' cap' junk', junk'.length = cap' * sz → n ≤ cap' → K c (wpList c.P ops Q rest) ((d, .slice (some ⟨b', 0, none⟩) n cap') :: E) ((b', .cells (List.toArray junk') e (0, 0)) :: H)) :
    K c (wpList c.P ops Q (⟨some d, .call ⟨.builtin .append, #[x, y], #[t, xt]⟩, ty, pos, af, g⟩ :: rest)) E H :=
  op_step hg fun a w hs => by
    have hu : c.P.underlying t = some (.slice e) := by
      unfold sliceB at ha
      split at ha
      · rename_i e1 h; simp at ha; subst ha; exact h
      · cases ha
    unfold Oper.wp
    rw [execOp_append, hs.ev hx, hs.ev hy]
    obtain ⟨cap', junk', h1, h2, h7⟩ := run_append_zeros (ty := ty) (w := w) (kd2 := kd2) hu hu2 hz hzr hby (by simpa [Nat.blt_eq] using hbp) (by simpa [Nat.beq_eq] using hzl) hn hn2 hsz hbig
    simp only [Sem.run_bind, h7, Result.andThen, Sem.run_pure]
    rw [Oper.upon_value]
    refine k w.heap.size cap' junk' h2 h1 _ _ ?_
    have hk : Keep [] w w.drew := ⟨rfl, rfl, rfl, Nat.le_refl _, fun _ _ _ => rfl⟩
    have := (hs.world hk).alloc (.cells (List.toArray junk') e (0, 0))
    exact this.put hd _
end
section
variable {c : Ctx} {E : Env} {H : Hp} {ops : Array Oper} {d : Nat} {t ty : TypeId} {pos : String} {af : Array Edge} {g : Option (Nat × Bool)} {x : Operand}
theorem p_capS {a : Option Addr} {len cap : Nat} {e : TypeId} (ha : sliceB c.P t = some e) (hx : ev E x = some (.slice a len cap)) : PR c E H ⟨some d, .call ⟨.builtin .cap, #[x], #[t]⟩, ty, pos, af, g⟩ (.int .i64 (cap : Int)) :=
  (fun ac w hs => by
    unfold sliceB at ha
    split at ha
    · rename_i e' hu
      simp [execOp, resolve, invoke, builtin, hs.ev hx, Builtin.cap_, run_underlying hu, goInt]
    · cases ha)
end
/-- the lengths of two rows, one behind the other -/
def sz2 (a b : Nat) : Nat → Nat
  | 0 => 0
  | 1 => a
  | _ => a + b
def cat2 (es fs : List Nat) : Nat → List Nat
  | 0 => []
  | 1 => es
  | _ => es ++ fs
/-- a fresh row with room for n -/
def RowGrow (n : Nat) (v : Value) (H : Hp) : Prop := ∃ b cap junk u, v = .slice (some ⟨b, 0, none⟩) 0 cap ∧ junk.length = cap ∧ n ≤ cap ∧ H = [(b, .cells (List.toArray junk) u (0, 0))]
theorem takeCr {n : Nat} {rs : List Nat} {v : Value} (h : n ≤ rs.length) : takeAt (v :: fl .f32 rs) (0 + 1) (n * 1) = some (fl .f32 (rs.take n)) := by
  unfold takeAt
  rw [if_pos (by simp [fl_length]; omega)]
  simp [fl]
/-- a list with zeros behind it, sixteen long -/
def padL (es : List Nat) : List Nat := es ++ List.replicate (16 - es.length) 0
theorem padL_len {es : List Nat} (h : es.length ≤ 16) : (padL es).length = 16 := by simp [padL]; omega
theorem putPad {es : List Nat} {v : Value} (h : es.length ≤ 16) : putL (v :: fl .f32 (List.replicate 16 0)) (0 + 1) (fl .f32 es) = v :: fl .f32 (padL es) := by
  have e : v :: fl .f32 (List.replicate 16 0) = [v] ++ (fl .f32 (List.replicate es.length 0) ++ fl .f32 (List.replicate (16 - es.length) 0)) := by
    rw [← fl_append, List.replicate_append_replicate, show es.length + (16 - es.length) = 16 by omega]; rfl
  rw [e]
  have := putL_mid (fl .f32 es) [v] (fl .f32 (List.replicate es.length 0)) (fl .f32 (List.replicate (16 - es.length) 0)) (by simp [fl_length])
  rw [show (0 + 1) = [v].length from rfl, this, ← fl_append]
  rfl
/-- two crates' fruits in one -/
def jnL (n : Nat) (rs qs : List Nat) (k : Nat) : List Nat := rs.take n ++ qs.take k ++ rs.drop (n + k)
theorem jnL_zero {n : Nat} {rs qs : List Nat} : jnL n rs qs 0 = rs := by simp [jnL]
theorem jnL_len {n k : Nat} {rs qs : List Nat} (h : rs.length = 16) (hq : qs.length = 16) (hk : n + k ≤ 16) : (jnL n rs qs k).length = 16 := by simp [jnL]; omega
theorem jnL_set {n k : Nat} {rs qs : List Nat} (h : rs.length = 16) (hq : qs.length = 16) (hk : n + k < 16) : (jnL n rs qs k).set (n + k) (qs.getD k 0) = jnL n rs qs (k + 1) := by
  unfold jnL
  have h1 : (rs.take n ++ qs.take k).length = n + k := by simp; omega
  rw [List.set_append_right _ _ (by omega), h1, Nat.sub_self, drop_getD (d := 0) (by omega), List.set_cons_zero, take_succ_getD (d := 0) (by omega)]
  simp [Nat.add_assoc]
theorem setJn {n k : Nat} {rs qs : List Nat} {v : Value} (h : rs.length = 16) (hq : qs.length = 16) (hk : n + k < 16) : (v :: fl .f32 (jnL n rs qs k)).set (0 + 1 + (n + k) * 1) (.float .f32 (qs.getD k 0)) = v :: fl .f32 (jnL n rs qs (k + 1)) := by
  rw [setC, jnL_set h hq hk]
theorem same_zero {p : Nat} (h : same p 0 = true) : p = 0 := by
  unfold same at h
  split at h
  · simp only [Bool.and_eq_true] at h
    have : nan 0 = false := by decide
    rw [this] at h; cases h.2
  · simpa using h
theorem vAt_zero {n : Int} {rs : List Nat} (h : vCrate n rs = true) {i : Nat} (hi : n ≤ i) (h16 : i < 16) : rs.getD i 0 = 0 := by
  have h1 : vAt n rs i = true := by
    unfold vCrate at h
    simp only [Bool.and_eq_true] at h
    exact (List.all_eq_true.1 h.2) i (List.mem_range.2 h16)
  unfold vAt at h1
  rw [if_neg (by omega)] at h1
  exact same_zero h1
theorem jnL_pad {n m : Nat} {rs qs : List Nat} (hv : vCrate (n : Int) rs = true) (h : rs.length = 16) (hq : qs.length = 16) (hnm : n + m ≤ 16) : jnL n rs qs m = padL (rs.take n ++ qs.take m) := by
  unfold jnL padL
  congr 1
  have h1 : (rs.take n ++ qs.take m).length = n + m := by simp; omega
  rw [h1]
  apply List.ext_getElem
  · simp; omega
  · intro i h2 h3
    have := vAt_zero hv (i := n + m + i) (by omega) (by simp at h2; omega)
    simp at h2
    rw [List.getD_eq_getElem?_getD, List.getElem?_eq_getElem (by omega)] at this
    simpa using this
def jvC (n : Int) (rs : List Nat) (m : Int) (qs : List Nat) : Int := if (vCrate n rs && vCrate m qs) = false then 1 else if 16 < n + m then 3 else 0
def jvN (n : Int) (rs : List Nat) (m : Int) (qs : List Nat) : Int := if jvC n rs m qs = 0 then n + m else 0
def jvL (n : Int) (rs : List Nat) (m : Int) (qs : List Nat) : List Nat := if jvC n rs m qs = 0 then jnL n.toNat rs qs m.toNat else List.replicate 16 0
theorem jv_ok {n : Int} {rs : List Nat} {m : Int} {qs : List Nat} (h : jvC n rs m qs = 0) : vCrate n rs = true ∧ vCrate m qs = true ∧ n + m ≤ 16 := by
  unfold jvC at h
  split at h
  · cases h
  · rename_i h1
    split at h
    · cases h
    · simp only [Bool.and_eq_false_iff, not_or, Bool.not_eq_false] at h1
      exact ⟨h1.1, h1.2, by omega⟩
theorem jvL_len {n : Int} {rs : List Nat} {m : Int} {qs : List Nat} (h : rs.length = 16) (hq : qs.length = 16) : (jvL n rs m qs).length = 16 := by
  unfold jvL
  split
  · rename_i h0
    obtain ⟨h1, h2, h3⟩ := jv_ok h0
    have a := vCrate_in h1
    have b := vCrate_in h2
    exact jnL_len h hq (by omega)
  · simp
theorem jvL_nan {n : Int} {rs : List Nat} {m : Int} {qs : List Nat} (h : rs.length = 16) (hq : qs.length = 16) : ∀ i, i < 16 → nan ((jvL n rs m qs).getD i 0) = false := fun i hi => by
  unfold jvL
  split
  · rename_i h0
    obtain ⟨h1, h2, h3⟩ := jv_ok h0
    have a := vCrate_in h1
    have b := vCrate_in h2
    obtain ⟨n0, rfl⟩ := Int.eq_ofNat_of_zero_le a.1
    obtain ⟨m0, rfl⟩ := Int.eq_ofNat_of_zero_le b.1
    have hl := jnL_len (n := n0) (k := m0) h hq (by omega)
    have key : ∀ x ∈ jnL n0 rs qs m0, nan x = false := by
      intro x hx
      unfold jnL at hx
      have mem : ∀ (l : List Nat) (v : Int), vCrate v l = true → l.length = 16 → ∀ x ∈ l, nan x = false := by
        intro l v hv hl x hx
        obtain ⟨j, hj, rfl⟩ := List.getElem_of_mem hx
        have := vAt_nan hv (i := j) (by omega)
        simpa [List.getD_eq_getElem?_getD, hj] using this
      simp only [List.append_assoc, List.mem_append] at hx
      rcases hx with hx | hx | hx
      · exact mem rs _ h1 h x (List.mem_of_mem_take hx)
      · exact mem qs _ h2 hq x (List.mem_of_mem_take hx)
      · exact mem rs _ h1 h x (List.mem_of_mem_drop hx)
    have h4 : (jnL n0 rs qs m0).getD i 0 = (jnL n0 rs qs m0)[i]'(by omega) := by simp [List.getD_eq_getElem?_getD, show i < (jnL n0 rs qs m0).length by omega]
    simp only [Int.toNat_natCast]
    rw [h4]
    exact key _ (List.getElem_mem _)
  · have : (List.replicate 16 0).getD i 0 = 0 := by
      rw [List.getD_eq_getElem?_getD, List.getElem?_replicate]
      split <;> rfl
    rw [this]
    decide
end Go.Sl
