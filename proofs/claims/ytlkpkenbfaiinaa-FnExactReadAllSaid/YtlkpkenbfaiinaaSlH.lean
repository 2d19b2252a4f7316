/- The rules of the small logic for memory that a call makes and fills: slice literals, make, append, copy; steps by hand. -/
import Derived.Test.YtlkpkenbfaiinaaSlG
namespace Go.Sl

/-- where the elements come from that are appended or copied -/
inductive Src (X H : Hp) : Option Addr → Nat → List Value → Prop
  | z {a} : Src X H a 0 []
  | s {b off u fr n ys} {l : List Value} : In (b, .cells l.toArray u fr) X H → takeAt l off n = some ys → Src X H (some ⟨b, off, none⟩) n ys

theorem putL_append : ∀ (ys xs junk : List Value), ys.length ≤ junk.length → putL (xs ++ junk) xs.length ys = xs ++ ys ++ junk.drop ys.length
  | [], xs, junk, _ => by simp [putL]
  | y :: ys, xs, junk, h => by
    cases junk with
    | nil => simp at h
    | cons j junk =>
      have ih := putL_append ys (xs ++ [y]) junk (by simpa using h)
      simp only [putL]
      rw [show (xs ++ j :: junk).set xs.length y = (xs ++ [y]) ++ junk from by simp]
      rw [show xs.length + 1 = (xs ++ [y]).length from by simp, ih]
      simp

theorem growBy_le (newLen : Nat) : ∀ (r c : Nat), c ≤ 2 * newLen + 768 → Builtin.growBy newLen r c ≤ 2 * newLen + 768
  | 0, c, h => h
  | r + 1, c, h => by
    unfold Builtin.growBy
    split
    · exact h
    · exact growBy_le newLen r _ (by omega)
theorem next_le {newLen oldCap : Nat} (h : oldCap < newLen) : Builtin.nextslicecap newLen oldCap ≤ 2 * newLen + 768 := by
  unfold Builtin.nextslicecap
  split
  · omega
  · split
    · omega
    · exact growBy_le _ _ _ (by omega)

section
variable {c : Ctx} {E : Env} {H H' : Hp} {Q : Exit → Act → World → Prop} {ops : Array Oper} {rest : List Oper} {d : Nat} {ty : TypeId} {pos : String} {af : Array Edge} {g : Option (Nat × Bool)} {x y z : Operand}
variable {b off : Nat} {l : List Value} {t u : TypeId} {fr : Nat × Nat} {v : Value}

theorem r_buildSlice {n sz : Nat} {e : TypeId} {zl l : List Value} {ps : List (Nat × Operand)} {vs : List (Nat × Value)} (ha : sliceB c.P t = some e) (hz : szB c.P e = some sz) (hzr : zeroB c.P e = some zl) (hzl : Nat.beq zl.length sz = true) (hg : gdB ops E g = some true) (hd : Nat.blt d c.n = true)
    (hv : evps E ps = some vs) (hsm : Nat.ble (n * sz) 16777216 = true) (hf : fillL (.inr sz) (List.replicate n zl).flatten vs = some l)
    (k : ∀ b, K c (wpList c.P ops Q rest) ((d, .slice (some ⟨b, 0, none⟩) n n) :: E) ((b, .cells l.toArray e (0, 0)) :: H)) : K c (wpList c.P ops Q (⟨some d, .buildSlice t n ps.toArray, ty, pos, af, g⟩ :: rest)) E H :=
  op_new (v := fun b => .slice (some ⟨b, 0, none⟩) n n) hg hd (fun a w hs => by
    obtain ⟨zv, h1, h2⟩ := run_zero (P := c.P) (w := w) hzr
    have hps := evps_run hs hv
    have hzl' : zl.length = sz := by simpa [Nat.beq_eq] using hzl
    have hsm' : n * sz ≤ 2 ^ 24 := by simpa [Nat.ble_eq] using hsm
    unfold sliceB at ha
    split at ha
    · rename_i e' hu
      simp at ha; subst ha
      have hfill := fill_eq (place := fun i => some (i * sz, sz)) (pl := .inr sz) (fun i => rfl) vs (List.replicate n zl).flatten l hf
      have hle : ¬ n * sz > 2 ^ 24 := by omega
      by_cases h0 : n * sz = 0
      · have he : (List.replicate n zl).flatten = [] := by
          apply List.eq_nil_of_length_eq_zero
          simp only [List.length_flatten, List.map_replicate, List.sum_replicate_nat]; rw [hzl']; exact h0
        rw [he] at hfill
        have hps' : Array.map (fun x => (x.1, a.eval x.2)) ps.toArray = vs.toArray := by rw [List.map_toArray, hps]
        have hr0 : Array.range 0 = #[] := rfl
        simp [execOp, Instr.buildSlice, run_underlying hu, run_sz hz, h0, newRow, newObj, Sem.run, hps', hfill, hr0]
      · have hcells : (Array.range (n * sz)).map (fun i => zl.toArray[i % zl.toArray.size]!) = (List.replicate n zl).flatten.toArray := by
          rw [← hzl']; exact zeros_eq zl n
        have hps' : Array.map (fun x => (x.1, a.eval x.2)) ps.toArray = vs.toArray := by rw [List.map_toArray, hps]
        have hle' : ¬ 16777216 < n * sz := by omega
        have hcells' : Array.map (fun i => zv.cells[i % zv.cells.size]!) (Array.range (n * sz)) = (List.replicate n zl).flatten.toArray := by rw [h2]; exact hcells
        have hrun : (Instr.buildSlice t n vs.toArray).run c.P w = .ok (.slice (some ⟨w.heap.size, 0, none⟩) n n) { w with heap := w.heap.push (.cells l.toArray e' (0, 0)) } := by
          unfold Instr.buildSlice
          simp only [Sem.run_bind, run_underlying hu, Result.andThen, run_sz hz, if_neg hle, if_neg h0, h1, hcells', hfill, Sem.run_pure]
          simp [newRow, newObj, Sem.run]
        simp only [execOp, hps', Sem.run_bind, hrun, Result.andThen, Sem.run_pure]
    · cases ha) k

theorem r_makeSlice {n sz by_ : Nat} {e : TypeId} {zl : List Value} {k1 k2 : IntKind} (ha : sliceB c.P t = some e) (hz : szB c.P e = some sz) (hzr : zeroB c.P e = some zl) (hzl : Nat.beq zl.length sz = true) (hby : bytesB c.P e = some by_) (hg : gdB ops E g = some true) (hd : Nat.blt d c.n = true)
    (hx : ev E x = some (.int k1 (n : Int))) (hy : ev E y = some (.int k2 (n : Int))) (hsm : n * by_ ≤ 281474976710656 ∧ n ≤ 9223372036854775807)
    (k : ∀ b, K c (wpList c.P ops Q rest) ((d, .slice (some ⟨b, 0, none⟩) n n) :: E) ((b, .cells (List.replicate n zl).flatten.toArray e (0, 0)) :: H)) : K c (wpList c.P ops Q (⟨some d, .makeSlice t x y, ty, pos, af, g⟩ :: rest)) E H :=
  op_new (v := fun b => .slice (some ⟨b, 0, none⟩) n n) hg hd (fun a w hs => by
    have hzl' : zl.length = sz := by simpa [Nat.beq_eq] using hzl
    unfold sliceB at ha
    split at ha
    · rename_i e' hu
      simp at ha; subst ha
      unfold bytesB at hby
      unfold szB at hz
      unfold zeroB at hzr
      cases hi : c.P.info? e' with
      | none => rw [hi] at hby; cases hby
      | some i =>
        rw [hi] at hby hz hzr
        simp at hby hz
        cases hzz : i.zero with
        | none => simp [hzz] at hzr
        | some z =>
          simp [hzz] at hzr
          have hb1 : (i.bytes : Int) * (n : Int) ≤ 281474976710656 := by
            have h : ((n * by_ : Nat) : Int) ≤ 281474976710656 := by omega
            rw [Int.natCast_mul, Int.mul_comm] at h
            rw [hby]; exact h
          have hr := run_make (P := c.P) (w := w) t e' i z hu hi hzz k1 k2 n n (by omega) (by omega) hb1 (by omega)
          simp only [Int.toNat_natCast] at hr
          have hm : madeCells z.cells (n * i.size) = (List.replicate n zl).flatten.toArray := by
            have := zeros_eq zl n
            rw [hz, ← hzl', ← this, ← hzr]
            unfold madeCells
            simp
          rw [hm] at hr
          simp only [execOp, hs.ev hx, hs.ev hy, Sem.run_bind, hr, Result.andThen, Sem.run_pure]
          rfl
    · cases ha) k

theorem src_run {a : Act} {w : World} {P : Program} {sa : Option Addr} {n sz cap : Nat} {ys : List Value} (hs : Sat c E H a w) (h : Src c.X H sa (n * sz) ys) : (Builtin.firstCells sz n (.slice sa n cap)).run P w = .ok ys.toArray w ∧ ys.length = n * sz := by
  generalize hm : n * sz = m at h
  cases h with
  | z =>
    cases sa with
    | none => exact ⟨by simp [Builtin.firstCells], by simp⟩
    | some a => exact ⟨by simp [Builtin.firstCells, hm, loadCells, loadCellsFrom], by simp⟩
  | s hi ht =>
    unfold takeAt at ht
    split at ht
    · rename_i hle
      simp at ht
      have := run_loadN (P := P) (hs.at hi) m hle
      refine ⟨by simp only [Builtin.firstCells, hm]; rw [this, ht], ?_⟩
      rw [← ht]; simp; omega
    · cases ht

theorem zeroCells_size (zero : Array Value) (n : Nat) : (Builtin.zeroCells zero n).size = n * zero.size := by simp [Builtin.zeroCells]

theorem run_append_room {P : Program} {w w' : World} {e len cap n scap sz : Nat} {xt : TypeId} {a : Option Addr} {ad : Addr} {ys : List Value} (hu : P.underlying t = some (.slice e)) (hu2 : P.underlying xt = some (.slice e)) (hz : szB P e = some sz)
    (hsr : (Builtin.firstCells sz n (.slice a n scap)).run P w = .ok ys.toArray w) (hroom : len + n ≤ cap) (hst : (storeCells (ad.add (len * sz)) ys).run P w = .ok () w') :
    (Builtin.append_ #[t, xt] ty #[.slice (some ad) len cap, .slice a n scap]).run P w = .ok (.slice (some ad) (len + n) cap) w' := by
  simp [Builtin.append_, run_underlying hu, run_underlying hu2, run_sz hz, Builtin.lenOf, hsr, hroom, hst]

theorem ask_room {P : Program} {w : World} (m : Nat) : (askRoom m).run P w = .ok () w := by
  unfold askRoom
  split <;> simp [mark, Sem.run]

theorem run_append_grow {P : Program} {w : World} {e len cap n scap sz by_ : Nat} {xt : TypeId} {a base : Option Addr} {xs ys zl : List Value} (hu : P.underlying t = some (.slice e)) (hu2 : P.underlying xt = some (.slice e)) (hz : szB P e = some sz) (hzr : zeroB P e = some zl) (hby : bytesB P e = some by_) (hbp : 0 < by_) (hzl : zl.length = sz)
    (hsr : ∀ w', w'.heap = w.heap → (Builtin.firstCells sz n (.slice a n scap)).run P w' = .ok ys.toArray w') (hold' : ∀ w', w'.heap = w.heap → (Builtin.firstCells sz len (.slice base len cap)).run P w' = .ok xs.toArray w') (hroom : ¬ len + n ≤ cap) (hbig : (2 * (len + n) + 768) * by_ ≤ 281474976710656) :
    ∃ (cap' : Nat) (junk : List Value) (w' : World), len + n ≤ cap' ∧ junk.length = (cap' - (len + n)) * sz ∧ w'.heap = w.heap ∧ w'.os = w.os ∧ w'.tape = w.tape ∧ w'.output = w.output ∧
    (Builtin.append_ #[t, xt] ty #[.slice base len cap, .slice a n scap]).run P w = .ok (.slice (some ⟨w.heap.size, 0, none⟩) (len + n) cap') { w' with heap := w'.heap.push (.cells (xs ++ ys ++ junk).toArray e (0, 0)) } := by
  unfold bytesB at hby
  cases hi : P.info? e with
  | none => rw [hi] at hby; cases hby
  | some i =>
    rw [hi] at hby
    simp at hby
    have hti : ∀ w, (typeInfo e).run P w = .ok i w := fun w => by simp [typeInfo, hi]
    have hnext := next_le (show cap < len + n by omega)
    have hmul : Builtin.nextslicecap (len + n) cap * i.bytes ≤ 281474976710656 := by
      rw [hby]
      exact Nat.le_trans (Nat.mul_le_mul_right _ hnext) hbig
    obtain ⟨zv, h1, h2⟩ := run_zero (P := P) (w := w.drew) hzr
    let cap' := (Question.appendCap (len + n) cap e).cut (w.tape w.drawn (Question.appendCap (len + n) cap e))
    have hc' : len + n ≤ cap' := by
      show len + n ≤ (len + n) + _ % _
      omega
    refine ⟨cap', (Builtin.zeroCells zv.cells (cap' - (len + n))).toList, w.drew, hc', ?_, rfl, rfl, rfl, rfl, ?_⟩
    · rw [Array.length_toList, zeroCells_size, h2]; simp [hzl]
    · have g1 : ¬ ((len + n : Nat) : Int) > IntKind.i64.max ∨ True := .inr trivial
      have hb0 : ¬ i.bytes = 0 := by omega
      have hsr' := hsr w.drew rfl
      have ho' := hold' w.drew rfl
      have hno : ¬ (281474976710656 < Builtin.nextslicecap (len + n) cap * i.bytes) := by omega
      have : (Builtin.append_ #[t, xt] ty #[.slice base len cap, .slice a n scap]).run P w = .ok (.slice (some ⟨w.heap.size, 0, none⟩) (len + n) cap') (w.drew.alloc (.cells (xs ++ ys ++ (Builtin.zeroCells zv.cells (cap' - (len + n))).toList).toArray e (0, 0))) := by
        simp [Builtin.append_, run_underlying hu, run_underlying hu2, run_sz hz, Builtin.lenOf, hroom, hti, hb0, hno, choose, Sem.run, Question.forced, ho', hsr', h1, newRow, newObj, cap']
        congr 2
        apply Array.toList_inj.1
        simp
      exact this

theorem heap_firstCells {P : Program} {w : World} {sa : Option Addr} {n sz cap m : Nat} {ys : List Value} {X' H' : Hp} (hin : ∀ e, In e X' H' → w.heap[e.1]? = some e.2) (h : Src X' H' sa m ys) (hm : n * sz = m) :
    ∀ w', w'.heap = w.heap → (Builtin.firstCells sz n (.slice sa n cap)).run P w' = .ok ys.toArray w' := by
  intro w' hw
  cases h with
  | z =>
    cases sa with
    | none => simp [Builtin.firstCells]
    | some a => simp [Builtin.firstCells, hm, loadCells, loadCellsFrom]
  | s hi ht =>
    unfold takeAt at ht
    split at ht
    · rename_i hle
      simp at ht
      have hb := hin _ hi
      rw [← hw] at hb
      have := run_loadN (P := P) hb m hle
      simp only [Builtin.firstCells, hm]; rw [this, ht]
    · cases ht

theorem execOp_append {a : Act} {dst : Option Tmp} : (execOp a.eval ⟨dst, .call ⟨.builtin .append, #[x, y], #[t, u]⟩, ty, pos, af, g⟩) = (do pure (Next.value (← Builtin.append_ #[t, u] ty #[a.eval x, a.eval y]))) := by
  simp [execOp, resolve, invoke, builtin]

/-- append onto a row of the call's own -/
theorem r_append {len cap n scap sz by_ : Nat} {e xt : TypeId} {zl xs junk ys : List Value} {sa : Option Addr} (ha : sliceB c.P t = some e) (ha2 : sliceB c.P xt = some e) (hz : szB c.P e = some sz) (hzr : zeroB c.P e = some zl) (hzl : Nat.beq zl.length sz = true) (hby : bytesB c.P e = some by_) (hbp : Nat.blt 0 by_ = true)
    (hg : gdB ops E g = some true) (hd : Nat.blt d c.n = true)
    (hx : ev E x = some (.slice (some ⟨b, 0, none⟩) len cap)) (hy : ev E y = some (.slice sa n scap)) (hsrc : Src c.X H sa (n * sz) ys) (hrem : Rem (b, .cells (xs ++ junk).toArray u (0, 0)) H H')
    (hxs : xs.length = len * sz) (hcap : (xs ++ junk).length = cap * sz) (hone : ys.all one = true) (hbig : (2 * (len + n) + 768) * by_ ≤ 281474976710656)
    (k : ∀ b' cap' junk' u', (xs ++ ys ++ junk').length = cap' * sz → len + n ≤ cap' → K c (wpList c.P ops Q rest) ((d, .slice (some ⟨b', 0, none⟩) (len + n) cap') :: E) ((b', .cells (xs ++ ys ++ junk').toArray u' (0, 0)) :: H')) :
    K c (wpList c.P ops Q (⟨some d, .call ⟨.builtin .append, #[x, y], #[t, xt]⟩, ty, pos, af, g⟩ :: rest)) E H :=
  op_step hg fun a w hs => by
    have hzl' : zl.length = sz := by simpa [Nat.beq_eq] using hzl
    have hbp' : 0 < by_ := by simpa [Nat.blt_eq] using hbp
    have hfc : ∀ w', w'.heap = w.heap → (Builtin.firstCells sz n (.slice sa n scap)).run c.P w' = .ok ys.toArray w' := heap_firstCells (fun e he => hs.at he) hsrc rfl
    have hyl : ys.length = n * sz := by
      generalize hm : n * sz = m at hsrc
      cases hsrc with
      | z => rfl
      | s _ ht =>
        unfold takeAt at ht
        split at ht
        · simp at ht; rw [← ht]; simp; omega
        · cases ht
    have hu : c.P.underlying t = some (.slice e) := by
      unfold sliceB at ha
      split at ha
      · rename_i e1 h; simp at ha; subst ha; exact h
      · cases ha
    have hu2 : c.P.underlying xt = some (.slice e) := by
      unfold sliceB at ha2
      split at ha2
      · rename_i e1 h; simp at ha2; subst ha2; exact h
      · cases ha2
    have hp := hs.perm hrem.perm
    have hb := hp.own _ List.mem_cons_self
    simp only at hb
    unfold Oper.wp
    rw [execOp_append, hs.ev hx, hs.ev hy]
    by_cases hroom : len + n ≤ cap
    · have hjl : ys.length ≤ junk.length := by
        have : (len + n) * sz ≤ cap * sz := Nat.mul_le_mul_right _ hroom
        rw [Nat.add_mul] at this
        simp only [List.length_append] at hcap
        omega
      have hst := run_storeN (P := c.P) (off := 0 + len * sz) hb ys 0 (by
        simp only [List.length_append]; omega) (by simpa using hone)
      rw [Nat.add_zero, Nat.zero_add, ← hxs, putL_append ys xs junk hjl] at hst
      have hst' : (storeCells (Addr.add ⟨b, 0, none⟩ (len * sz)) ys).run c.P w = .ok () (wset w b (.cells (xs ++ ys ++ junk.drop ys.length).toArray u (0, 0))) := by
        rw [add_at, Nat.zero_add, ← hxs]; exact hst
      have hr := run_append_room (ty := ty) hu hu2 hz (hfc w rfl) hroom hst'
      simp only [Sem.run_bind, hr, Result.andThen, Sem.run_pure]
      rw [Oper.upon_value]
      refine k b cap (junk.drop ys.length) u (by simp only [List.length_append, List.length_drop] at hcap ⊢; omega) hroom _ _ ?_
      exact (hp.upd Up.z).put hd _
    · have hold : ∀ w', w'.heap = w.heap → (Builtin.firstCells sz len (.slice (some ⟨b, 0, none⟩) len cap)).run c.P w' = .ok xs.toArray w' :=
        heap_firstCells (X' := c.X) (H' := H) (fun e he => hs.at he) (Src.s (b := b) (off := 0) (u := u) (fr := (0, 0)) (l := xs ++ junk) (by
          have : (b, Obj.cells (xs ++ junk).toArray u (0, 0)) ∈ H := hrem.perm.mem_iff.2 List.mem_cons_self
          have mk : ∀ (H : Hp) (e : Nat × Obj), e ∈ H → Mem e H := by
            intro H e he
            induction H with
            | nil => cases he
            | cons a H ih =>
              rcases List.mem_cons.1 he with rfl | he
              · exact .z
              · exact .s (ih he)
          exact .h (mk _ _ this)) (by
            unfold takeAt
            rw [if_pos (by simp only [List.length_append]; omega)]
            simp [← hxs])) rfl
      obtain ⟨cap', junk', w1, h1, h2, h3, h4, h5, h6, h7⟩ := run_append_grow (ty := ty) hu hu2 hz hzr hby hbp' hzl' hfc hold hroom hbig
      simp only [Sem.run_bind, h7, Result.andThen, Sem.run_pure]
      rw [Oper.upon_value]
      refine k w.heap.size cap' junk' e ?_ h1 _ _ ?_
      · simp only [List.length_append, h2, hxs, hyl]
        have : cap' * sz = (len + n) * sz + (cap' - (len + n)) * sz := by rw [← Nat.add_mul]; congr 1; omega
        rw [this, Nat.add_mul]
      · have hk : Keep [] w w1 := ⟨h4, h5, h6, by rw [h3]; exact Nat.le_refl _, fun k hk _ => by rw [h3]⟩
        have hq : Sat c E H' a w1 := by
          have q := hp.world hk
          exact ⟨q.keep, q.rd, q.env, q.size, q.nodef, fun e he => q.own e (List.mem_cons_of_mem _ he), fun e he => q.orig e (List.mem_cons_of_mem _ he), (List.nodup_cons.1 q.nodup).2⟩
        have := hq.alloc (.cells (xs ++ ys ++ junk').toArray e (0, 0))
        rw [h3] at this ⊢
        exact this.put hd _

/-- append onto a slice that has no room (a nil slice, a cut one): something is appended -/
theorem r_append0 {len n scap sz by_ : Nat} {e xt : TypeId} {zl xs ys : List Value} {base sa : Option Addr} (ha : sliceB c.P t = some e) (ha2 : sliceB c.P xt = some e) (hz : szB c.P e = some sz) (hzr : zeroB c.P e = some zl) (hzl : Nat.beq zl.length sz = true) (hby : bytesB c.P e = some by_) (hbp : Nat.blt 0 by_ = true)
    (hg : gdB ops E g = some true) (hd : Nat.blt d c.n = true)
    (hx : ev E x = some (.slice base len len)) (hy : ev E y = some (.slice sa n scap)) (hsrc : Src c.X H sa (n * sz) ys) (hold : Src c.X H base (len * sz) xs) (hn : 0 < n) (hbig : (2 * (len + n) + 768) * by_ ≤ 281474976710656)
    (k : ∀ b' cap' junk', (xs ++ ys ++ junk').length = cap' * sz → len + n ≤ cap' → K c (wpList c.P ops Q rest) ((d, .slice (some ⟨b', 0, none⟩) (len + n) cap') :: E) ((b', .cells (xs ++ ys ++ junk').toArray e (0, 0)) :: H)) :
    K c (wpList c.P ops Q (⟨some d, .call ⟨.builtin .append, #[x, y], #[t, xt]⟩, ty, pos, af, g⟩ :: rest)) E H :=
  op_step hg fun a w hs => by
    have hzl' : zl.length = sz := by simpa [Nat.beq_eq] using hzl
    have hbp' : 0 < by_ := by simpa [Nat.blt_eq] using hbp
    have hfc : ∀ w', w'.heap = w.heap → (Builtin.firstCells sz n (.slice sa n scap)).run c.P w' = .ok ys.toArray w' := heap_firstCells (fun e he => hs.at he) hsrc rfl
    have hoc : ∀ w', w'.heap = w.heap → (Builtin.firstCells sz len (.slice base len len)).run c.P w' = .ok xs.toArray w' := heap_firstCells (fun e he => hs.at he) hold rfl
    have len_of : ∀ {q : Option Addr} {m : Nat} {zs : List Value}, Src c.X H q m zs → zs.length = m := by
      intro q m zs h
      cases h with
      | z => rfl
      | s _ ht =>
        unfold takeAt at ht
        split at ht
        · simp at ht; rw [← ht]; simp; omega
        · cases ht
    have hyl := len_of hsrc
    have hxl := len_of hold
    have hu : c.P.underlying t = some (.slice e) := by
      unfold sliceB at ha
      split at ha
      · rename_i e1 h; simp at ha; subst ha; exact h
      · cases ha
    have hu2 : c.P.underlying xt = some (.slice e) := by
      unfold sliceB at ha2
      split at ha2
      · rename_i e1 h; simp at ha2; subst ha2; exact h
      · cases ha2
    unfold Oper.wp
    rw [execOp_append, hs.ev hx, hs.ev hy]
    obtain ⟨cap', junk', w1, h1, h2, h3, h4, h5, h6, h7⟩ := run_append_grow (ty := ty) hu hu2 hz hzr hby hbp' hzl' hfc hoc (by omega) hbig
    simp only [Sem.run_bind, h7, Result.andThen, Sem.run_pure]
    rw [Oper.upon_value]
    refine k w.heap.size cap' junk' ?_ h1 _ _ ?_
    · simp only [List.length_append, h2, hxl, hyl]
      have : cap' * sz = (len + n) * sz + (cap' - (len + n)) * sz := by rw [← Nat.add_mul]; congr 1; omega
      rw [this, Nat.add_mul]
    · have hk : Keep [] w w1 := ⟨h4, h5, h6, by rw [h3]; exact Nat.le_refl _, fun k hk _ => by rw [h3]⟩
      have := (hs.world hk).alloc (.cells (xs ++ ys ++ junk').toArray e (0, 0))
      rw [h3] at this ⊢
      exact this.put hd _

/-- nothing is appended -/
theorem p_append00 {len cap scap sz : Nat} {e xt : TypeId} {base sa : Option Addr} (ha : sliceB c.P t = some e) (ha2 : sliceB c.P xt = some e) (hz : szB c.P e = some sz)
    (hx : ev E x = some (.slice base len cap)) (hy : ev E y = some (.slice sa 0 scap)) (hlc : len ≤ cap) :
    PR c E H ⟨some d, .call ⟨.builtin .append, #[x, y], #[t, xt]⟩, ty, pos, af, g⟩ (.slice base len cap) := fun a w hs => by
  have hu : c.P.underlying t = some (.slice e) := by
    unfold sliceB at ha
    split at ha
    · rename_i e1 h; simp at ha; subst ha; exact h
    · cases ha
  have hu2 : c.P.underlying xt = some (.slice e) := by
    unfold sliceB at ha2
    split at ha2
    · rename_i e1 h; simp at ha2; subst ha2; exact h
    · cases ha2
  have hf : (Builtin.firstCells sz 0 (.slice sa 0 scap)).run c.P w = .ok #[] w := by
    cases sa <;> simp [Builtin.firstCells, loadCells, loadCellsFrom]
  rw [execOp_append, hs.ev hx, hs.ev hy]
  cases base with
  | none => simp [Builtin.append_, run_underlying hu, run_underlying hu2, run_sz hz, Builtin.lenOf, hf, hlc]
  | some ad => simp [Builtin.append_, run_underlying hu, run_underlying hu2, run_sz hz, Builtin.lenOf, hf, hlc, storeCells]

/-- copy into a row of the call's own -/
theorem r_copy {dl cap n scap sz m : Nat} {e xt : TypeId} {ys l : List Value} {sa : Option Addr} (ha : sliceB c.P t = some e) (hz : szB c.P e = some sz)
    (hg : gdB ops E g = some true) (hd : Nat.blt d c.n = true)
    (hx : ev E x = some (.slice (some ⟨b, off, none⟩) dl cap)) (hy : ev E y = some (.slice sa n scap)) (hm : Nat.min n dl = m) (hsrc : Src c.X H sa (m * sz) ys) (hone : ys.all one = true)
    (hu : Up b (.cells l.toArray u (0, 0)) (.cells (putL l off ys).toArray u (0, 0)) H H') (hl : Nat.ble (off + m * sz) l.length = true)
    (k : K c (wpList c.P ops Q rest) ((d, .int .i64 (m : Int)) :: E) H') :
    K c (wpList c.P ops Q (⟨some d, .call ⟨.builtin .copy, #[x, y], #[t, xt]⟩, ty, pos, af, g⟩ :: rest)) E H :=
  op_step hg fun a w hs => by
    have hl' : off + m * sz ≤ l.length := by simpa [Nat.ble_eq] using hl
    have hut : c.P.underlying t = some (.slice e) := by
      unfold sliceB at ha
      split at ha
      · rename_i e1 h; simp at ha; subst ha; exact h
      · cases ha
    have hfc : ∀ cap, (Builtin.firstCells sz m (.slice sa cap scap)).run c.P w = .ok ys.toArray w := by
      intro cp
      have := heap_firstCells (P := c.P) (cap := scap) (fun e he => hs.at he) hsrc rfl w rfl
      cases sa <;> simpa [Builtin.firstCells] using this
    have hyl : ys.length = m * sz := by
      generalize hmm : m * sz = q at hsrc
      cases hsrc with
      | z => rfl
      | s _ ht =>
        unfold takeAt at ht
        split at ht
        · simp at ht; rw [← ht]; simp; omega
        · cases ht
    have hb := hs.own _ hu.mem
    simp only at hb
    have hst := run_storeN (P := c.P) (off := off) hb ys 0 (by rw [hyl]; omega) (by simpa using hone)
    rw [Nat.add_zero] at hst
    have hpre : (execOp a.eval ⟨some d, .call ⟨.builtin .copy, #[x, y], #[t, xt]⟩, ty, pos, af, g⟩) = (do pure (Next.value (← Builtin.copy_ #[t, xt] ty #[a.eval x, a.eval y]))) := by
      simp [execOp, resolve, invoke, builtin]
    unfold Oper.wp
    rw [hpre, hs.ev hx, hs.ev hy]
    have hr : (Builtin.copy_ #[t, xt] ty #[.slice (some ⟨b, off, none⟩) dl cap, .slice sa n scap]).run c.P w = .ok (.int .i64 (m : Int)) (wset w b (.cells (putL l off ys).toArray u (0, 0))) := by
      have hm' : n.min dl = m := hm
      simp [Builtin.copy_, run_underlying hut, run_sz hz, Builtin.lenOf, hm', hfc, hst, goInt]
    simp only [Sem.run_bind, hr, Result.andThen, Sem.run_pure]
    rw [Oper.upon_value]
    exact k _ _ ((hs.upd hu).put hd _)
end
end Go.Sl
