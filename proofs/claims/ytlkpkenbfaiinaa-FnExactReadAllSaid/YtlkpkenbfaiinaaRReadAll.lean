/- FnExactReadAll: the law holds for every input that the row speaks of. -/
import Derived.Test.YtlkpkenbfaiinaaRows
import Derived.Test.YtlkpkenbfaiinaaSlJ1
import Derived.Test.YtlkpkenbfaiinaaPReadAll2
namespace Go.Proofs.Ytlkpkenbfaiinaa.FnExactReadAllR
open Go.ChangeShapes Go.WideShapes Go.ChangeAt Go.RowKit Go.Sl
theorem own : ownKnob Try.prog.godebug = none := by kernel_rfl
theorem laidOut : laidOutB Try.prog = true := by kernel_rfl
set_option maxRecDepth 100000 in
theorem lifted (os : Os) (started : os.Started) (H : Type) (enc : TypeId × Value → H) :
    ReturnsInHanded {} Try.checked os 14 .any (Rows.fnExactReadAllSpec.pre6 enc Try.prog Try.f14 Rows.fnExactReadAllRow.domain false) (Rows.fnExactReadAllSpec.post enc Try.prog Try.f14 false true false false) := by
  refine returnsInHanded_of_change_sized (C := Try.checked) own started (by kernel_rfl) Try.func14
    (ChangeSpec.witness6 (enc := enc) (C := Try.checked) false ⟨#[], #[.agg #[.float .f32 0, .float .f32 0, .float .f32 0], .slice none 0 0], []⟩ 8 (by kernel_rfl) (by kernel_rfl) (by kernel_rfl) (by kernel_rfl)) ?_
  intro W base args ds gs before hval0 hW hcnd hsz0 _
  have hval : ∀ (j : Nat) t v, Try.f14.params[j]? = some t → args[j]? = some v → Value.okWide Try.prog W .any base t v := hval0
  have hW' := hW
  obtain ⟨p, q, hA0, hV, rfl, hfz, hnd⟩ := hW
  have hA : DataW.TrodAll enc Try.prog W 0 (fun _ => true) true Try.f14.params.toList args.toList ds p := hA0
  rw [Try.params14] at hA hval
  obtain ⟨v0, vs0, d0, ds0, p0, q0, hargs, rfl, rfl, k0, r0⟩ := trodAll_cons hA
  obtain ⟨v1, vs1, d1, ds1, p1, q1, rfl, rfl, rfl, k1, r1⟩ := trodAll_cons r0
  obtain ⟨rfl, rfl, rfl⟩ := trodAll_nil r1
  obtain rfl : args = #[v0, v1] := by cases args; simp_all
  obtain ⟨rfl, rfl⟩ := trodVars_none hV
  have lt0 : ∀ x ∈ p0, x.block < W.heap.size := by obtain ⟨m, hm⟩ := k0; exact DataW.trod_lt m _ _ _ hm
  obtain ⟨l0, e0, x0⟩ := open_flatA ag_71 lf_71 (hval 0 71 v0 rfl rfl) k0
  have lt1 : ∀ x ∈ p1, x.block < W.heap.size := by obtain ⟨m, hm⟩ := k1; exact DataW.trod_lt m _ _ _ hm
  obtain ⟨es1, x1⟩ := open_slice1 sl_64 lf_41 sz_41 (by decide) (hval 1 64 v1 rfl rfl) k1
  clear hA0 hval0
  obtain ⟨s, rfl⟩ := lk_leafs x0
  subst e0
  obtain ⟨a, cap, es, rfl, hlen, hx⟩ := x1.floats
  refine (show LawOk _ _ _ _ from by
    rcases hx with rfl | ⟨b, off, l, u, fr, rfl, hw, hg⟩
    · exact law_of (X := []) (law_ReadAll s _ _ _ hlen _ (fun _ => toFloat32S_nil _ _)) (by simp)
    · exact law_of (X := [(b, .cells l.toArray u fr)]) (law_ReadAll s _ _ _ hlen _ (fun h => toFloat32S _ _ _ _ _ _ _ _ rfl hg h)) (by simpa using hw)).mono fun e W' ⟨he, bel⟩ => ?_
  subst he
  exact ⟨_, rfl, _, _, _, [], _, [], hW', trodAll_mk1 (shut_bool un_4 _), ⟨_, _, Below.trod laidOut (by kernel_rfl) (of_decide_eq_true (by kernel_rfl)) k0 bel lt0, ⟨_, _, Below.trod laidOut (by kernel_rfl) (of_decide_eq_true (by kernel_rfl)) k1 bel lt1, rfl, rfl⟩, rfl⟩, rfl, bel.frame _, fun h => by cases h⟩
def sumN : List Nat := [48, 102, 99, 51, 56, 101, 99, 52, 98, 53, 48, 51, 99, 51, 52, 99, 99, 50, 49, 55, 57, 100, 97, 54, 54, 51, 55, 54, 55, 55, 102, 48, 49, 101, 101, 99, 54, 49, 101, 57, 52, 97, 55, 52, 56, 48, 52, 99, 100, 53, 102, 97, 51, 100, 50, 97, 50, 102, 48, 98, 100, 53, 49, 53]
def restN : List (List Nat) := [[97, 116], [108, 111, 111, 112, 46, 101, 120, 97, 109, 112, 108, 101, 47, 103, 48, 49, 51, 57, 48, 47, 108, 97, 119, 115, 46, 70, 110, 69, 120, 97, 99, 116, 77, 97, 121, 83, 104, 97, 114, 101], [108, 111, 111, 112, 46, 101, 120, 97, 109, 112, 108, 101, 47, 103, 48, 49, 51, 57, 48, 47, 108, 97, 119, 115, 46, 70, 110, 69, 120, 97, 99, 116, 67, 104, 101, 99, 107, 72, 111, 108, 100, 115], [108, 111, 111, 112, 46, 101, 120, 97, 109, 112, 108, 101, 47, 103, 48, 49, 51, 57, 48, 47, 108, 97, 119, 115, 46, 70, 110, 69, 120, 97, 99, 116, 71, 114, 101, 101, 100, 121, 72, 111, 108, 100, 115], [108, 111, 111, 112, 46, 101, 120, 97, 109, 112, 108, 101, 47, 103, 48, 49, 51, 57, 48, 47, 108, 97, 119, 115, 46, 70, 110, 69, 120, 97, 99, 116, 77, 101, 97, 110, 76, 111, 111, 107], [108, 111, 111, 112, 46, 101, 120, 97, 109, 112, 108, 101, 47, 103, 48, 49, 51, 57, 48, 47, 108, 97, 119, 115, 46, 70, 110, 69, 120, 97, 99, 116, 78, 101, 97, 114, 101, 115, 116, 76, 111, 111, 107], [108, 111, 111, 112, 46, 101, 120, 97, 109, 112, 108, 101, 47, 103, 48, 49, 51, 57, 48, 47, 108, 97, 119, 115, 46, 70, 110, 69, 120, 97, 99, 116, 83, 111, 114, 116, 66, 121, 76, 111, 111, 107, 115], [108, 111, 111, 112, 46, 101, 120, 97, 109, 112, 108, 101, 47, 103, 48, 49, 51, 57, 48, 47, 108, 97, 119, 115, 46, 70, 110, 69, 120, 97, 99, 116, 77, 111, 118, 101, 77, 97, 114, 107, 115], [108, 111, 111, 112, 46, 101, 120, 97, 109, 112, 108, 101, 47, 103, 48, 49, 51, 57, 48, 47, 108, 97, 119, 115, 46, 70, 110, 69, 120, 97, 99, 116, 80, 105, 108, 101, 83, 117, 109], [108, 111, 111, 112, 46, 101, 120, 97, 109, 112, 108, 101, 47, 103, 48, 49, 51, 57, 48, 47, 108, 97, 119, 115, 46, 70, 110, 69, 120, 97, 99, 116, 82, 101, 97, 100, 83, 99, 97, 108, 101], [108, 111, 111, 112, 46, 101, 120, 97, 109, 112, 108, 101, 47, 103, 48, 49, 51, 57, 48, 47, 108, 97, 119, 115, 46, 70, 110, 69, 120, 97, 99, 116, 69, 114, 114, 111, 114, 79, 102], [108, 111, 111, 112, 46, 101, 120, 97, 109, 112, 108, 101, 47, 103, 48, 49, 51, 57, 48, 47, 108, 97, 119, 115, 46, 70, 110, 69, 120, 97, 99, 116, 69, 120, 99, 101, 115, 115, 79, 102], [108, 111, 111, 112, 46, 101, 120, 97, 109, 112, 108, 101, 47, 103, 48, 49, 51, 57, 48, 47, 108, 97, 119, 115, 46, 70, 110, 69, 120, 97, 99, 116, 82, 101, 97, 100, 65, 108, 108], [108, 111, 111, 112, 46, 101, 120, 97, 109, 112, 108, 101, 47, 103, 48, 49, 51, 57, 48, 47, 108, 97, 119, 115, 46, 70, 110, 69, 120, 97, 99, 116, 83, 117, 109, 66, 111, 116, 104, 87, 97, 121, 115], [108, 111, 111, 112, 46, 101, 120, 97, 109, 112, 108, 101, 47, 103, 48, 49, 51, 57, 48, 47, 108, 97, 119, 115, 46, 70, 110, 69, 120, 97, 99, 116, 81, 117, 101, 117, 101, 79, 102], [108, 111, 111, 112, 46, 101, 120, 97, 109, 112, 108, 101, 47, 103, 48, 49, 51, 57, 48, 47, 108, 97, 119, 115, 46, 70, 110, 69, 120, 97, 99, 116, 70, 105, 108, 108, 71, 114, 101, 101, 100, 121]]
def words : List (List Nat) := [104, 97, 114, 110, 101, 115, 115] :: sumN :: [99, 117, 116] :: restN
theorem initL : Try.prog.initOrder = String.ofList (joinW words) := by kernel_rfl
theorem ws : wordsSigns Try.prog.initOrder.toList = harnW :: nw sumN :: cutW :: restN.map (fun w => w.map Char.ofNat) := by rw [initL, String.toList_ofList, words_join words (by simp [words]) (by kernel_rfl)]; rfl
theorem sums : isSumSigns (nw sumN) = true := sum_ok (by kernel_rfl) (by kernel_rfl)
theorem j0 : jl Try.prog 14 Try.f14 Rows.fnExactReadAllSpec Rows.fnExactReadAllRow 0 = true := by kernel_rfl
theorem j1 : jl Try.prog 14 Try.f14 Rows.fnExactReadAllSpec Rows.fnExactReadAllRow 1 = true := by kernel_rfl
theorem j2 : jl Try.prog 14 Try.f14 Rows.fnExactReadAllSpec Rows.fnExactReadAllRow 2 = true := by kernel_rfl
theorem j3 : jl Try.prog 14 Try.f14 Rows.fnExactReadAllSpec Rows.fnExactReadAllRow 3 = true := by kernel_rfl
theorem j4 : jl Try.prog 14 Try.f14 Rows.fnExactReadAllSpec Rows.fnExactReadAllRow 4 = true := by kernel_rfl
theorem j5 : jl Try.prog 14 Try.f14 Rows.fnExactReadAllSpec Rows.fnExactReadAllRow 5 = true := by kernel_rfl
theorem j6 : jl Try.prog 14 Try.f14 Rows.fnExactReadAllSpec Rows.fnExactReadAllRow 6 = true := by kernel_rfl
theorem j7 : jl Try.prog 14 Try.f14 Rows.fnExactReadAllSpec Rows.fnExactReadAllRow 7 = true := by kernel_rfl
theorem j8 : jl Try.prog 14 Try.f14 Rows.fnExactReadAllSpec Rows.fnExactReadAllRow 8 = true := by kernel_rfl
theorem j9 : jl Try.prog 14 Try.f14 Rows.fnExactReadAllSpec Rows.fnExactReadAllRow 9 = true := by kernel_rfl
theorem j10 : jl Try.prog 14 Try.f14 Rows.fnExactReadAllSpec Rows.fnExactReadAllRow 10 = true := by kernel_rfl
theorem j11 : jl Try.prog 14 Try.f14 Rows.fnExactReadAllSpec Rows.fnExactReadAllRow 11 = true := by kernel_rfl
theorem j12 : jl Try.prog 14 Try.f14 Rows.fnExactReadAllSpec Rows.fnExactReadAllRow 12 = true := by kernel_rfl
theorem j13 : jl Try.prog 14 Try.f14 Rows.fnExactReadAllSpec Rows.fnExactReadAllRow 13 = true := by kernel_rfl
theorem j14 : jl Try.prog 14 Try.f14 Rows.fnExactReadAllSpec Rows.fnExactReadAllRow 14 = true := by kernel_rfl
theorem j15 : jl Try.prog 14 Try.f14 Rows.fnExactReadAllSpec Rows.fnExactReadAllRow 15 = true := by kernel_rfl
theorem j16 : jl Try.prog 14 Try.f14 Rows.fnExactReadAllSpec Rows.fnExactReadAllRow 16 = true := by kernel_rfl
theorem j17 : jl Try.prog 14 Try.f14 Rows.fnExactReadAllSpec Rows.fnExactReadAllRow 17 = true := by kernel_rfl
theorem j18 : jl Try.prog 14 Try.f14 Rows.fnExactReadAllSpec Rows.fnExactReadAllRow 18 = true := by kernel_rfl
theorem j19 : jl Try.prog 14 Try.f14 Rows.fnExactReadAllSpec Rows.fnExactReadAllRow 19 = true := by kernel_rfl
theorem j20 : jl Try.prog 14 Try.f14 Rows.fnExactReadAllSpec Rows.fnExactReadAllRow 20 = true := by kernel_rfl
theorem later : Try.prog.laysLater = false := by kernel_rfl
theorem refl : Try.prog.bearsReflect = false := by kernel_rfl
theorem doors : Try.prog.doorFits [] = true := by kernel_rfl
theorem j21 : jl Try.prog 14 Try.f14 Rows.fnExactReadAllSpec Rows.fnExactReadAllRow 21 = true := jl21 (mayEnter_cut ws sums later refl doors)
theorem j22 : jl Try.prog 14 Try.f14 Rows.fnExactReadAllSpec Rows.fnExactReadAllRow 22 = true := jl22 (lifts_cut ws sums) (by kernel_rfl)
theorem j23 : jl Try.prog 14 Try.f14 Rows.fnExactReadAllSpec Rows.fnExactReadAllRow 23 = true := jl23 (make_cut ws sums) (by kernel_rfl)
theorem j24 : jl Try.prog 14 Try.f14 Rows.fnExactReadAllSpec Rows.fnExactReadAllRow 24 = true := by kernel_rfl
theorem j25 : jl Try.prog 14 Try.f14 Rows.fnExactReadAllSpec Rows.fnExactReadAllRow 25 = true := by kernel_rfl
theorem j26 : jl Try.prog 14 Try.f14 Rows.fnExactReadAllSpec Rows.fnExactReadAllRow 26 = true := by kernel_rfl
theorem j27 : jl Try.prog 14 Try.f14 Rows.fnExactReadAllSpec Rows.fnExactReadAllRow 27 = true := by kernel_rfl
theorem closed : joinedFacts Try.prog 14 Try.f14 Rows.fnExactReadAllSpec Rows.fnExactReadAllRow = true := joined_of (fun i hi => match i, hi with | 0, _ => j0 | 1, _ => j1 | 2, _ => j2 | 3, _ => j3 | 4, _ => j4 | 5, _ => j5 | 6, _ => j6 | 7, _ => j7 | 8, _ => j8 | 9, _ => j9 | 10, _ => j10 | 11, _ => j11 | 12, _ => j12 | 13, _ => j13 | 14, _ => j14 | 15, _ => j15 | 16, _ => j16 | 17, _ => j17 | 18, _ => j18 | 19, _ => j19 | 20, _ => j20 | 21, _ => j21 | 22, _ => j22 | 23, _ => j23 | 24, _ => j24 | 25, _ => j25 | 26, _ => j26 | 27, _ => j27 | n + 28, h => absurd h (by omega))
theorem named : Try.prog.funcNamed Rows.fnExactReadAllRow.func = some 14 := by kernel_rfl
theorem inst : Try.f14.isInstance Try.prog Rows.fnExactReadAllRow.origin Rows.fnExactReadAllRow.targs := of_decide_eq_true (by kernel_rfl)
theorem wrap : Try.f14.isWrapper Try.prog Rows.fnExactReadAllRow.wrapper Rows.fnExactReadAllRow.mainSum := by unfold Func.isWrapper; first | (rw [if_pos (by decide +kernel)]; kernel_rfl) | (rw [if_neg (by decide +kernel)]; exact ⟨rfl, rfl⟩)
theorem over : Rows.fnExactReadAllRow.holds Try.pinned (OpenSpec.ofChange Rows.fnExactReadAllSpec) :=
  OpenClaim.holds_of_wide 14 Try.f14 rfl rfl rfl rfl rfl rfl rfl ⟨rfl, rfl, rfl, rfl, rfl⟩ rfl rfl rfl rfl rfl named Try.func14 closed inst wrap
    (fun os started H enc _ => lifted os started H enc)
end Go.Proofs.Ytlkpkenbfaiinaa.FnExactReadAllR
namespace Go.Proofs.Ytlkpkenbfaiinaa
theorem fnExactReadAll_holds : Rows.FnExactReadAllSaid := FnExactReadAllR.over
end Go.Proofs.Ytlkpkenbfaiinaa
