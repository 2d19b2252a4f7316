/- What a scale reads. -/
import Derived.Test.YtlkpkenbfaiinaaSl8
namespace Go.Sl
open Ieee
theorem flr_le {m : Nat} {e : Int} (he : -149 ≤ e) : flr m e * 2 ^ 149 ≤ m * 2 ^ (e + 149).toNat := by
  unfold flr
  rcases Int.le_total 0 e with h | h
  · rw [show (-e).toNat = 0 by omega, Nat.pow_zero, Nat.div_one, Nat.mul_assoc, ← Nat.pow_add, show e.toNat + 149 = (e + 149).toNat by omega]
    exact Nat.le_refl _
  · rw [show e.toNat = 0 by omega, Nat.pow_zero, Nat.mul_one]
    have a : (149 : Nat) = (-e).toNat + (e + 149).toNat := by omega
    have b : 2 ^ 149 = 2 ^ (-e).toNat * 2 ^ (e + 149).toNat := by rw [← Nat.pow_add, ← a]
    rw [b, ← Nat.mul_assoc]
    exact Nat.mul_le_mul_right _ (Nat.div_mul_le_self _ _)
theorem dec_f32 (p : Nat) : FloatKind.f32.decode p = single.read p := rfl
theorem dec_f64 (p : Nat) : FloatKind.f64.decode p = double.read p := rfl
theorem floor_chain {p m : Nat} {e : Int} (hr : single.read p = .number false m e) (hm0 : m ≠ 0) (hN : flr m e ≤ 2 ^ 40) :
    ∃ z K e1, floatToFloatBits .f32 p .f64 = some z ∧ double.read z = .number false K e1 ∧ floatToFloatBits .f64 (double.nearest false (flr K e1) 0) .f32 = some (floorF m e) ∧ floatToIntVal .f32 p .i64 = some ((flr m e : Nat) : Int) := by
  obtain ⟨hm, he, he2⟩ := single_number hr
  have hlog : m.log2 < 24 := (Nat.log2_lt hm0).2 (by simpa using hm)
  obtain ⟨K, e1, hz, h1, h2, hK⟩ := dnear (m := m) (e := e) hm0 (Nat.lt_trans hm (by decide)) (by omega) (by omega)
  have hfl : flr K e1 = flr m e := by rw [hK]; exact flr_scale h2
  refine ⟨double.nearest false m e, K, e1, ?_, hz, ?_, ?_⟩
  · unfold floatToFloatBits
    rw [if_neg (by decide), dec_f32, hr]
    have a : FloatKind.f64.encode (.number false m e) = double.nearest false m e := rfl
    simp only [a, dec_f64, hz]
    rfl
  · rw [hfl]
    obtain ⟨m3, e3, hf⟩ := near_fin hN
    unfold floorF
    generalize flr m e = N at *
    by_cases hN0 : N = 0
    · subst hN0; rfl
    · have hl : N.log2 < 41 := (Nat.log2_lt hN0).2 (Nat.lt_of_le_of_lt hN (by decide))
      obtain ⟨K2, e2, hz2, h5, h6, hK2⟩ := dnear (m := N) (e := 0) hN0 (Nat.lt_of_le_of_lt hN (by decide)) (by omega) (by omega)
      unfold floatToFloatBits
      rw [if_neg (by decide), dec_f64, hz2]
      have a : FloatKind.f32.encode (.number false K2 e2) = single.nearest false N 0 := by
        rw [hK2]
        exact near_scale h5 h6
      simp only [a, dec_f32, hf]
      rfl
  · unfold floatToIntVal
    rw [dec_f32, hr, toInt_zero]
    have h3 : IntKind.i64.min = -9223372036854775808 := by decide
    have h4 : IntKind.i64.max = 9223372036854775807 := by decide
    have h5 : (2 : Nat) ^ 40 = 1099511627776 := by decide
    rw [h5] at hN
    simp only [h3, h4]
    rw [if_pos (by omega)]
def floorS (p : Nat) : Nat := match single.read p with | .number _ m e => floorF m e | _ => 0
/-- a scale: its step, the most, its tare -/
def validS (s : Lk) : Bool := fle 1015021568 s.1 && fle s.1 1065353216 && fle s.1 s.2.1 && fle s.2.1 1115684864 && isPart s.2.2
def stepX (s : Lk) (load : Nat) : Nat := fadd (fdiv load s.1) 1056964608
def readF (s : Lk) (load : Nat) : Nat := fsub (fmul (floorS (stepX s load)) s.1) s.2.2
theorem HV_r (r : Nat) (h : r < 2139095040) : HV r (valR r) := by
  have h1 := HV_rung (neg := false) (r := r) h (fun h => by cases h)
  exact h1
theorem HV_256 : HV 1132462080 (2 ^ 157) := by
  have h := HV_r 1132462080 (by decide)
  have e2 : valR 1132462080 = 2 ^ 157 := by decide +kernel
  rwa [e2] at h
theorem HV_64 : HV 1115684864 (2 ^ 155) := by
  have h := HV_r 1115684864 (by decide)
  have e2 : valR 1115684864 = 2 ^ 155 := by decide +kernel
  rwa [e2] at h
theorem HV_least : HV 1015021568 (2 ^ 143) := by
  have h := HV_r 1015021568 (by decide)
  have e2 : valR 1015021568 = 2 ^ 143 := by decide +kernel
  rwa [e2] at h
theorem HV_half : HV 1056964608 (2 ^ 148) := by
  have h := HV_r 1056964608 (by decide)
  have e2 : valR 1056964608 = 2 ^ 148 := by decide +kernel
  rwa [e2] at h
theorem HV_181 : HV 1333788672 (2 ^ 181) := by
  have h := HV_r 1333788672 (by decide)
  have e2 : valR 1333788672 = 2 ^ 181 := by decide +kernel
  rwa [e2] at h
theorem validS_HV {s : Lk} (h : validS s = true) : (∃ M, HV s.1 M ∧ 2 ^ 143 ≤ M) ∧ (∃ T, HV s.2.2 T ∧ T ≤ 2 ^ 149) := by
  unfold validS at h
  simp only [Bool.and_eq_true] at h
  obtain ⟨⟨⟨⟨h1, h2⟩, _⟩, _⟩, h5⟩ := h
  have hn : nn s.1 = true := nn_trans (show nn 1015021568 = true by decide) h1
  obtain ⟨M, hM, _⟩ := HV_le hn h2 HV_one
  rw [HV_fle HV_least hM] at h1
  exact ⟨⟨M, hM, by simpa using h1⟩, part_HV h5⟩
theorem load_ok {s : Lk} {w : Nat} (hs : validS s = true) (hw : isWeight w = true) : floatBits .add .f32 w s.2.2 = some (fadd w s.2.2) ∧ ∃ N, HV (fadd w s.2.2) N ∧ N ≤ 2 ^ 157 := by
  obtain ⟨_, T, hT, hT2⟩ := validS_HV hs
  have hn := weight_nn hw
  unfold isWeight at hw
  rw [Bool.and_eq_true] at hw
  obtain ⟨N, hN, hN2⟩ := HV_le hn hw.2 HV_64
  have hb : N + T ≤ 2 ^ 157 := by
    have a : (2 : Nat) ^ 155 + 2 ^ 149 ≤ 2 ^ 157 := by decide
    omega
  have := HV_add hN hT HV_256 hb
  exact ⟨this.1, _, this.2.1, this.2.2⟩
theorem steps_ok {s : Lk} {load N : Nat} (hs : validS s = true) (hl : HV load N) (hN : N ≤ 2 ^ 157) :
    floatBits .quo .f32 load s.1 = some (fdiv load s.1) ∧ floatBits .add .f32 (fdiv load s.1) 1056964608 = some (stepX s load) ∧
    (∃ z K e1 n, floatToFloatBits .f32 (stepX s load) .f64 = some z ∧ double.read z = .number false K e1 ∧ floatToFloatBits .f64 (double.nearest false (flr K e1) 0) .f32 = some (floorS (stepX s load)) ∧ floatToIntVal .f32 (stepX s load) .i64 = some ((n : Nat) : Int) ∧ n ≤ 2 ^ 40 ∧ FloatKind.f32.nearest ((n : Nat) : Int) = floorS (stepX s load)) ∧
    floatBits .mul .f32 (floorS (stepX s load)) s.1 = some (fmul (floorS (stepX s load)) s.1) ∧ floatBits .sub .f32 (fmul (floorS (stepX s load)) s.1) s.2.2 = some (readF s load) ∧ nan (readF s load) = false := by
  obtain ⟨⟨M, hM, hM2⟩, T, hT, _⟩ := validS_HV hs
  obtain ⟨d1, X, hX, hX2⟩ := HV_div hl hM hN hM2
  have hb : X + 2 ^ 148 ≤ 2 ^ 181 := by
    have a : (2 : Nat) ^ 180 + 2 ^ 148 ≤ 2 ^ 181 := by decide
    omega
  obtain ⟨a1, a2, a3⟩ := HV_add hX HV_half HV_181 hb
  have hlow : 2 ^ 148 ≤ rnd 0 (X + 2 ^ 148) := by
    have h1 := rnd_exact HV_half 0
    rw [Nat.pow_zero, Nat.mul_one] at h1
    have h2 := rnd_mono (q := 0) (N := 2 ^ 148) (M := X + 2 ^ 148) (Nat.le_add_left _ _) HV_181 (by rw [Nat.pow_zero, Nat.mul_one]; exact hb)
    rw [h1] at h2
    exact h2
  have hx : HV (stepX s load) (rnd 0 (X + 2 ^ 148)) := a2
  generalize rnd 0 (X + 2 ^ 148) = V at *
  obtain ⟨sg, m, e, hr, hsg, he, hV⟩ := hx
  have hm0 : m ≠ 0 := by
    intro h0
    rw [h0, Nat.zero_mul] at hV
    have := Nat.two_pow_pos 148
    omega
  have hsf : sg = false := by
    cases sg with
    | false => rfl
    | true => exact absurd (hsg rfl) hm0
  subst hsf
  have hfl : flr m e ≤ 2 ^ 40 := by
    have h1 := flr_le (m := m) he
    rw [← hV] at h1
    have h2 : flr m e * 2 ^ 149 ≤ 2 ^ 32 * 2 ^ 149 := by
      refine Nat.le_trans h1 (Nat.le_trans a3 ?_)
      rw [← Nat.pow_add]
      exact Nat.le_refl _
    have h3 := Nat.le_of_mul_le_mul_right h2 (Nat.two_pow_pos _)
    exact Nat.le_trans h3 (Nat.pow_le_pow_right (by decide) (by decide))
  have hfs : floorS (stepX s load) = floorF m e := by unfold floorS; rw [hr]
  obtain ⟨z, K, e1, c1, c2, c3, c4⟩ := floor_chain hr hm0 hfl
  obtain ⟨m3, e3, hf⟩ := near_fin hfl
  have hff : single.read (floorF m e) = .number false m3 e3 := hf
  have hnn : nn (floorF m e) = true := (nn_iff _).2 (by rw [hff]; exact .pos _ _)
  refine ⟨d1, a1, ⟨z, K, e1, flr m e, c1, c2, by rw [hfs]; exact c3, c4, hfl, by rw [hfs]; exact floor_int⟩, ?_⟩
  rw [hfs]
  have hmul : floatBits .mul .f32 (floorF m e) s.1 = some (fmul (floorF m e) s.1) ∧ nn (fmul (floorF m e) s.1) = true := by
    obtain ⟨t, n2, j, k1, k2, _⟩ := hM
    have key : ∃ x, single.mul (floorF m e) s.1 = some x ∧ nn x = true := by
      unfold Format.mul
      rw [hff, k1]
      refine ⟨_, rfl, ?_⟩
      show nn (single.nearest (false ^^ t) _ _) = true
      exact nn_nearest (fun h => by rw [k2 (by simpa using h), Nat.mul_zero])
    obtain ⟨x, q1, q2⟩ := key
    have : fmul (floorF m e) s.1 = x := by unfold fmul; rw [q1]; rfl
    rw [this]
    exact ⟨q1, q2⟩
  have hsub := sub_nn hmul.2 hT
  refine ⟨hmul.1, ?_, ?_⟩
  · unfold readF
    rw [hfs]
    exact hsub.1
  · unfold readF
    rw [hfs]
    exact hsub.2
end Go.Sl
namespace Go.Sl
open Ieee
def rsC (s : Lk) (w : Nat) : Int := if validS s then (if isWeight w then (if flt s.2.1 (fadd w s.2.2) then 3 else 0) else 2) else 1
def rsF (s : Lk) (w : Nat) : Nat := if rsC s w = 0 then readF s (fadd w s.2.2) else 0
theorem rs_1 {s : Lk} {w : Nat} (h : validS s = false) : rsC s w = 1 ∧ rsF s w = 0 := by
  have h1 : rsC s w = 1 := by unfold rsC; rw [h]; rfl
  exact ⟨h1, by unfold rsF; rw [h1]; rfl⟩
theorem rs_2 {s : Lk} {w : Nat} (h : validS s = true) (h2 : isWeight w = false) : rsC s w = 2 ∧ rsF s w = 0 := by
  have h1 : rsC s w = 2 := by unfold rsC; rw [h, h2]; rfl
  exact ⟨h1, by unfold rsF; rw [h1]; rfl⟩
theorem rs_3 {s : Lk} {w : Nat} (h : validS s = true) (h2 : isWeight w = true) (h3 : flt s.2.1 (fadd w s.2.2) = true) : rsC s w = 3 ∧ rsF s w = 0 := by
  have h1 : rsC s w = 3 := by unfold rsC; rw [h, h2, h3]; rfl
  exact ⟨h1, by unfold rsF; rw [h1]; rfl⟩
theorem rs_0 {s : Lk} {w : Nat} (h : validS s = true) (h2 : isWeight w = true) (h3 : flt s.2.1 (fadd w s.2.2) = false) : rsC s w = 0 ∧ rsF s w = readF s (fadd w s.2.2) := by
  have h1 : rsC s w = 0 := by unfold rsC; rw [h, h2, h3]; rfl
  exact ⟨h1, by unfold rsF; rw [if_pos h1]⟩
theorem rsC_ok {s : Lk} {w : Nat} (h : rsC s w = 0) : validS s = true ∧ isWeight w = true ∧ flt s.2.1 (fadd w s.2.2) = false := by
  unfold rsC at h
  cases h1 : validS s <;> cases h2 : isWeight w <;> cases h3 : flt s.2.1 (fadd w s.2.2) <;> rw [h1, h2, h3] at h <;> simp at h ⊢
theorem rsF_nan (s : Lk) (w : Nat) : nan (rsF s w) = false := by
  unfold rsF
  split
  · rename_i h
    obtain ⟨a, b, _⟩ := rsC_ok h
    obtain ⟨_, N, h1, h2⟩ := load_ok a b
    exact (steps_ok a h1 h2).2.2.2.2.2
  · decide
theorem run_floor {P : Program} {z K : Nat} {e : Int} (h : double.read z = .number false K e) (w : World) : (Extern.MathFloor.toIntegral "math.archFloor" .down #[.float .f64 z]).run P w = .ok (.float .f64 (double.nearest false (flr K e) 0)) w := by
  have h' : FloatKind.f64.decode z = .number false K e := h
  have ex : ∃ f : Bool → Nat → Sem Value, Extern.MathFloor.toIntegral "math.archFloor" .down #[.float .f64 z] = (match FloatKind.f64.decode z with
      | .nan s t => f s t
      | d => pure (.float .f64 (FloatKind.f64.encode (d.integral .down)))) := ⟨_, rfl⟩
  obtain ⟨f, e1⟩ := ex
  rw [h'] at e1
  simp only [] at e1
  rw [e1, integral_down]
  rfl
end Go.Sl
namespace Go.Sl
open Ieee
theorem sub_any {p q M : Nat} (hp : nan p = false) (hq : HV q M) : floatBits .sub .f32 p q = some (fsub p q) ∧ nan (fsub p q) = false := by
  obtain ⟨t, n, j, h2, _⟩ := hq
  have key : ∃ x, single.sub p q = some x ∧ nan x = false := by
    unfold Format.sub
    unfold nan isNaN at hp
    rw [h2]
    cases hr : single.read p with
    | nan s t => rw [hr] at hp; cases hp
    | infinity s => cases s <;> exact ⟨_, rfl, by decide⟩
    | number s m e => exact ⟨_, rfl, near_nan _ _ _⟩
  obtain ⟨x, h3, h4⟩ := key
  have : fsub p q = x := by unfold fsub; rw [h3]; rfl
  rw [this]
  exact ⟨h3, h4⟩
def eoF (s : Lk) (w : Nat) : Nat := if rsC s w = 0 then fsub (rsF s w) w else 0
theorem eoF_nan (s : Lk) (w : Nat) : nan (eoF s w) = false := by
  unfold eoF
  split
  · rename_i h
    obtain ⟨N, hN⟩ := weight_HV (rsC_ok h).2.1
    exact (sub_any (rsF_nan s w) hN).2
  · decide
def fitS (s : Lk) (es : List Nat) (i : Nat) : Bool := !flt s.2.1 (fadd (es.getD i 0) s.2.2)
def ldC (s : Lk) (es : List Nat) : Int := if validS s && pileOk es then (if allN es.length (fitS s es) then 0 else 3) else 1
theorem ldC_1 {s : Lk} {es : List Nat} (h : (validS s && pileOk es) = false) : ldC s es = 1 := by unfold ldC; rw [h]; rfl
theorem ldC_3 {s : Lk} {es : List Nat} {k : Nat} (h : validS s = true) (h2 : pileOk es = true) (hk : k < es.length) (h3 : fitS s es k = false) : ldC s es = 3 := by
  unfold ldC
  rw [h, h2, allN_no hk h3]; rfl
theorem ldC_0 {s : Lk} {es : List Nat} (h : validS s = true) (h2 : pileOk es = true) (h3 : ∀ i, i < es.length → fitS s es i = true) : ldC s es = 0 := by
  unfold ldC
  rw [h, h2, allN_yes h3]; rfl
theorem ldC_ok {s : Lk} {es : List Nat} (h : ldC s es = 0) : validS s = true ∧ pileOk es = true ∧ ∀ i, i < es.length → fitS s es i = true := by
  unfold ldC at h
  split at h
  · rename_i h1
    rw [Bool.and_eq_true] at h1
    split at h
    · rename_i h2; exact ⟨h1.1, h1.2, fun i hi => allN_at h2 i hi⟩
    · cases h
  · cases h
def raF (s : Lk) (es : List Nat) (i : Nat) : Nat := readF s (fadd (es.getD i 0) s.2.2)
end Go.Sl
