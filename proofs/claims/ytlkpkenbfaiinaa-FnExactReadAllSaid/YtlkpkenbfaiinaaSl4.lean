/- Looks: how far they are apart, their means. -/
import Derived.Test.YtlkpkenbfaiinaaSl3
namespace Go.Sl
open Ieee
theorem near_nan (neg : Bool) (m : Nat) (e : Int) : nan (single.nearest neg m e) = false := by
  rw [nearest_rung (q := (-149 - e).toNat) (by omega)]
  generalize hr : rungN _ _ = r
  have hle : r ≤ 2139095040 := by rw [← hr]; unfold rungN; exact Nat.min_le_right _ _
  unfold nan isNaN
  rcases Nat.lt_or_ge r 2139095040 with h | h
  · obtain ⟨m', e', h1, _⟩ := read_word neg h
    rw [h1]; rfl
  · have : r = 2139095040 := by omega
    subst this
    rw [read_inf]; rfl
theorem sq_nn {r : Nat} (h : nan r = false) : floatBits .mul .f32 r r = some (fmul r r) ∧ nn (fmul r r) = true := by
  have key : ∃ x, single.mul r r = some x ∧ nn x = true := by
    unfold Format.mul
    unfold nan isNaN at h
    cases hr : single.read r with
    | nan s t => rw [hr] at h; cases h
    | infinity s => cases s <;> exact ⟨_, rfl, by decide⟩
    | number s m e =>
      refine ⟨_, rfl, ?_⟩
      show nn (single.nearest (s ^^ s) _ _) = true
      exact nn_nearest (fun hneg => by cases s <;> simp at hneg)
  obtain ⟨x, h1, h2⟩ := key
  have : fmul r r = x := by unfold fmul; rw [h1]; rfl
  rw [this]
  exact ⟨h1, h2⟩
theorem sub_num {a b N M : Nat} (ha : HV a N) (hb : HV b M) : floatBits .sub .f32 a b = some (fsub a b) ∧ nan (fsub a b) = false := by
  obtain ⟨s, m, i, h1, _⟩ := ha
  obtain ⟨t, n, j, h2, _⟩ := hb
  have key : ∃ x, single.sub a b = some x ∧ nan x = false := by
    unfold Format.sub
    rw [h1, h2]
    exact ⟨_, rfl, near_nan _ _ _⟩
  obtain ⟨x, h3, h4⟩ := key
  have : fsub a b = x := by unfold fsub; rw [h3]; rfl
  rw [this]
  exact ⟨h3, h4⟩
theorem sub_part {a b : Nat} (ha : isPart a = true) (hb : isPart b = true) : floatBits .sub .f32 a b = some (fsub a b) ∧ nan (fsub a b) = false := by
  obtain ⟨N, h1, _⟩ := part_HV ha
  obtain ⟨M, h2, _⟩ := part_HV hb
  exact sub_num h1 h2
def sqF (a b : Nat) : Nat := fmul (fsub a b) (fsub a b)
theorem sqF_ok {a b : Nat} (ha : isPart a = true) (hb : isPart b = true) : floatBits .mul .f32 (fsub a b) (fsub a b) = some (sqF a b) ∧ nn (sqF a b) = true := sq_nn (sub_part ha hb).2
def apartF (a b : Lk) : Nat := fadd (fadd (sqF a.1 b.1) (sqF a.2.1 b.2.1)) (sqF a.2.2 b.2.2)
def validL (a : Lk) : Bool := isPart a.1 && isPart a.2.1 && isPart a.2.2
theorem validL_iff {a : Lk} : validL a = true ↔ isPart a.1 = true ∧ isPart a.2.1 = true ∧ isPart a.2.2 = true := by
  unfold validL; simp [and_assoc]
theorem apart_ok {a b : Lk} (ha : validL a = true) (hb : validL b = true) : floatBits .add .f32 (sqF a.1 b.1) (sqF a.2.1 b.2.1) = some (fadd (sqF a.1 b.1) (sqF a.2.1 b.2.1)) ∧ floatBits .add .f32 (fadd (sqF a.1 b.1) (sqF a.2.1 b.2.1)) (sqF a.2.2 b.2.2) = some (apartF a b) ∧ nn (apartF a b) = true := by
  obtain ⟨a1, a2, a3⟩ := validL_iff.1 ha
  obtain ⟨b1, b2, b3⟩ := validL_iff.1 hb
  have h1 := nn_add (sqF_ok a1 b1).2 (sqF_ok a2 b2).2
  have h2 := nn_add h1.2 (sqF_ok a3 b3).2
  exact ⟨h1.1, h2.1, h2.2⟩
/-- the nearest of the first k marks -/
def nearTo (ms : List Lk) (l : Lk) (k : Nat) : Nat :=
  if h : k = 0 then 0 else if flt (apartF (ms.getD (k - 1) lz) l) (apartF (ms.getD (nearTo ms l (k - 1)) lz) l) then k - 1 else nearTo ms l (k - 1)
termination_by k
theorem nearTo_zero {ms : List Lk} {l : Lk} : nearTo ms l 0 = 0 := by rw [nearTo]; simp
theorem nearTo_succ {ms : List Lk} {l : Lk} {k : Nat} : nearTo ms l (k + 1) = if flt (apartF (ms.getD k lz) l) (apartF (ms.getD (nearTo ms l k) lz) l) then k else nearTo ms l k := by
  rw [nearTo, dif_neg (by omega)]
  simp only [Nat.add_sub_cancel]
theorem nearTo_t {ms : List Lk} {l : Lk} {k : Nat} (h : flt (apartF (ms.getD k lz) l) (apartF (ms.getD (nearTo ms l k) lz) l) = true) : nearTo ms l (k + 1) = k := by rw [nearTo_succ, if_pos h]
theorem nearTo_f {ms : List Lk} {l : Lk} {k : Nat} (h : flt (apartF (ms.getD k lz) l) (apartF (ms.getD (nearTo ms l k) lz) l) = false) : nearTo ms l (k + 1) = nearTo ms l k := by rw [nearTo_succ, if_neg (by rw [h]; simp)]
theorem nearTo_lt {ms : List Lk} {l : Lk} : ∀ k, nearTo ms l k < k ∨ nearTo ms l k = 0
  | 0 => .inr nearTo_zero
  | k + 1 => by
    rw [nearTo_succ]
    split
    · left; omega
    · rcases nearTo_lt (ms := ms) (l := l) k with h | h
      · left; omega
      · right; exact h
theorem nearTo_one {ms : List Lk} {l : Lk} : nearTo ms l 1 = 0 := by
  rw [nearTo_succ, nearTo_zero]; split <;> rfl
def lkCode (ms ls : List Lk) : Int := if ms.all validL && ls.all validL then (if 6 < ms.length ∨ 10 < ls.length then 3 else if ms.length = 0 then 6 else 0) else 1
theorem lkCode_ok {ms ls : List Lk} (h : lkCode ms ls = 0) : ms.all validL = true ∧ ls.all validL = true ∧ 0 < ms.length ∧ ms.length ≤ 6 ∧ ls.length ≤ 10 := by
  unfold lkCode at h
  split at h
  · rename_i h1
    rw [Bool.and_eq_true] at h1
    split at h
    · cases h
    · split at h
      · cases h
      · exact ⟨h1.1, h1.2, by omega, by omega, by omega⟩
  · cases h
theorem lkCode_bad {ms ls : List Lk} (h : (ms.all validL && ls.all validL) = false) : lkCode ms ls = 1 := by unfold lkCode; rw [h]; rfl
theorem lkCode_3 {ms ls : List Lk} (h : (ms.all validL && ls.all validL) = true) (h2 : 6 < ms.length ∨ 10 < ls.length) : lkCode ms ls = 3 := by unfold lkCode; rw [if_pos h, if_pos h2]
theorem lkCode_6 {ms ls : List Lk} (h : (ms.all validL && ls.all validL) = true) (h1 : ¬ (6 < ms.length ∨ 10 < ls.length)) (h2 : ms.length = 0) : lkCode ms ls = 6 := by unfold lkCode; rw [if_pos h, if_neg h1, if_pos h2]
theorem lkCode_0 {ms ls : List Lk} (h : (ms.all validL && ls.all validL) = true) (h1 : ¬ (6 < ms.length ∨ 10 < ls.length)) (h2 : ¬ ms.length = 0) : lkCode ms ls = 0 := by unfold lkCode; rw [if_pos h, if_neg h1, if_neg h2]
theorem all_no {α : Type} {p : α → Bool} {es : List α} (d : α) {i : Nat} (hi : i < es.length) (h : p (es.getD i d) = false) : es.all p = false := by
  rw [← allN_all d p es]; exact allN_no hi h
theorem all_yes {α : Type} {p : α → Bool} {es : List α} (d : α) {n : Nat} (hn : n = es.length) (h : ∀ i, i < n → p (es.getD i d) = true) : es.all p = true := by
  subst hn
  rw [← allN_all d p es]; exact allN_yes h
def nlI (ms : List Lk) (l : Lk) : Nat := if lkCode ms [l] = 0 then nearTo ms l ms.length else 0
def nlF (ms : List Lk) (l : Lk) : Nat := if lkCode ms [l] = 0 then apartF (ms.getD (nearTo ms l ms.length) lz) l else 0
theorem nlF_nn (ms : List Lk) (l : Lk) : nn (nlF ms l) = true := by
  unfold nlF
  split
  · rename_i h
    obtain ⟨h1, h2, h3, _⟩ := lkCode_ok h
    have hlt : nearTo ms l ms.length < ms.length := by rcases nearTo_lt (ms := ms) (l := l) ms.length with h | h <;> omega
    exact (apart_ok (getD_all h1 hlt lz) (by simpa using h2)).2.2
  · exact nn_zero
/- means -/
theorem nn_div {p q m : Nat} {e : Int} (hp : nn p = true) (hq : single.read q = .number false m e) (hm : m ≠ 0) : floatBits .quo .f32 p q = some (fdiv p q) ∧ nn (fdiv p q) = true := by
  have h1 := (nn_iff p).1 hp
  have key : ∃ x, single.div p q = some x ∧ nn x = true := by
    unfold Format.div
    rw [hq]
    generalize single.read p = a at h1
    cases h1 with
    | zero s i =>
      simp only [Datum.quotient, if_neg hm]
      refine ⟨_, rfl, ?_⟩
      show nn (single.nearest _ _ _) = true
      refine nn_nearest (fun _ => ?_)
      simp
    | pos n i =>
      simp only [Datum.quotient, if_neg hm]
      refine ⟨_, rfl, ?_⟩
      show nn (single.nearest _ _ _) = true
      exact nn_nearest (fun h => by simp at h)
    | inf => exact ⟨_, rfl, by decide⟩
  obtain ⟨x, h3, h4⟩ := key
  have : fdiv p q = x := by unfold fdiv; rw [h3]; rfl
  rw [this]
  exact ⟨h3, h4⟩
theorem i2f_pos {n : Nat} (h : 0 < n) (h2 : n ≤ 10) : ∃ m e, single.read (FloatKind.f32.nearest (n : Int)) = .number false m e ∧ m ≠ 0 := by
  have h3 : n = 1 ∨ n = 2 ∨ n = 3 ∨ n = 4 ∨ n = 5 ∨ n = 6 ∨ n = 7 ∨ n = 8 ∨ n = 9 ∨ n = 10 := by omega
  rcases h3 with rfl | rfl | rfl | rfl | rfl | rfl | rfl | rfl | rfl | rfl <;> exact ⟨_, _, by rfl, by decide⟩
def addL (s e : Lk) : Lk := (fadd s.1 e.1, fadd s.2.1 e.2.1, fadd s.2.2 e.2.2)
def sumL (es : List Lk) : Nat → Lk
  | 0 => es.getD 0 lz
  | k + 1 => addL (sumL es k) (es.getD (k + 1) lz)
def nnL (s : Lk) : Prop := nn s.1 = true ∧ nn s.2.1 = true ∧ nn s.2.2 = true
theorem validL_nn {a : Lk} (h : validL a = true) : nnL a := by
  obtain ⟨h1, h2, h3⟩ := validL_iff.1 h
  exact ⟨part_nn h1, part_nn h2, part_nn h3⟩
theorem sumL_nn {es : List Lk} (h : es.all validL = true) : ∀ k, k < es.length → nnL (sumL es k)
  | 0, hk => validL_nn (getD_all h hk lz)
  | k + 1, hk => by
    have h1 := sumL_nn h k (by omega)
    have h2 := validL_nn (getD_all h hk lz)
    exact ⟨(nn_add h1.1 h2.1).2, (nn_add h1.2.1 h2.2.1).2, (nn_add h1.2.2 h2.2.2).2⟩
def divL (s : Lk) (n : Nat) : Lk := (fdiv s.1 n, fdiv s.2.1 n, fdiv s.2.2 n)
def meanL (es : List Lk) : Lk := divL (sumL es (es.length - 1)) (FloatKind.f32.nearest (es.length : Int))
theorem meanL_ok {es : List Lk} (h : es.all validL = true) (h0 : 0 < es.length) (h1 : es.length ≤ 10) :
    let s := sumL es (es.length - 1); let n := FloatKind.f32.nearest (es.length : Int)
    floatBits .quo .f32 s.1 n = some (fdiv s.1 n) ∧ floatBits .quo .f32 s.2.1 n = some (fdiv s.2.1 n) ∧ floatBits .quo .f32 s.2.2 n = some (fdiv s.2.2 n) ∧ nnL (meanL es) := by
  obtain ⟨m, e, hr, hm⟩ := i2f_pos h0 h1
  have hs := sumL_nn h (es.length - 1) (by omega)
  have a := nn_div hs.1 hr hm
  have b := nn_div hs.2.1 hr hm
  have c := nn_div hs.2.2 hr hm
  exact ⟨a.1, b.1, c.1, a.2, b.2, c.2⟩
def mlCode (es : List Lk) : Int := if es.all validL then (if 10 < es.length then 3 else if es.length = 0 then 6 else 0) else 1
def mlRes (es : List Lk) : Lk := if mlCode es = 0 then meanL es else lz
end Go.Sl
namespace Go.Sl
def mapN (f : Nat → Int) (k : Nat) : List Int := (List.range k).map f
theorem mapN_succ (f : Nat → Int) (k : Nat) : mapN f k ++ [f k] = mapN f (k + 1) := by unfold mapN; rw [List.range_succ, List.map_append]; rfl
theorem mapN_len (f : Nat → Int) (k : Nat) : (mapN f k).length = k := by simp [mapN]
/-- a fresh row of whole numbers and a code -/
def RowTI (rs : List Int) (len : Nat) (code : Int) (v : Value) (H : Hp) : Prop := ∃ b cap junk u, v = packV [.slice (some ⟨b, 0, none⟩) len cap, .int .i64 code] ∧ len + junk.length = cap ∧ rs.length = len ∧ H = [(b, .cells (il rs ++ junk).toArray u (0, 0))]
def sblF (ms ls : List Lk) (i : Nat) : Int := (nearTo ms (ls.getD i lz) ms.length : Int)
end Go.Sl
namespace Go.Sl
theorem meanL_1 {es : List Lk} (h : es.all validL = true) (h0 : 0 < es.length) (h1 : es.length ≤ 10) : floatBits .quo .f32 (sumL es (es.length - 1)).1 (FloatKind.f32.nearest (es.length : Int)) = some (meanL es).1 := (meanL_ok h h0 h1).1
theorem meanL_2 {es : List Lk} (h : es.all validL = true) (h0 : 0 < es.length) (h1 : es.length ≤ 10) : floatBits .quo .f32 (sumL es (es.length - 1)).2.1 (FloatKind.f32.nearest (es.length : Int)) = some (meanL es).2.1 := (meanL_ok h h0 h1).2.1
theorem meanL_3 {es : List Lk} (h : es.all validL = true) (h0 : 0 < es.length) (h1 : es.length ≤ 10) : floatBits .quo .f32 (sumL es (es.length - 1)).2.2 (FloatKind.f32.nearest (es.length : Int)) = some (meanL es).2.2 := (meanL_ok h h0 h1).2.2.1
theorem ml_bad {es : List Lk} (h : es.all validL = false) : mlCode es = 1 := by unfold mlCode; rw [h]; rfl
theorem ml_3 {es : List Lk} (h : es.all validL = true) (h2 : 10 < es.length) : mlCode es = 3 := by unfold mlCode; rw [if_pos h, if_pos h2]
theorem ml_6 {es : List Lk} (h : es.all validL = true) (h2 : es.length = 0) : mlCode es = 6 := by unfold mlCode; rw [if_pos h, if_neg (by omega), if_pos h2]
theorem ml_0 {es : List Lk} (h : es.all validL = true) (h2 : ¬ 10 < es.length) (h3 : ¬ es.length = 0) : mlCode es = 0 := by unfold mlCode; rw [if_pos h, if_neg h2, if_neg h3]
theorem mlRes_ne {es : List Lk} (h : mlCode es ≠ 0) : mlRes es = lz := by unfold mlRes; rw [if_neg h]
theorem mlRes_0 {es : List Lk} (h : mlCode es = 0) : mlRes es = meanL es := by unfold mlRes; rw [if_pos h]
end Go.Sl
