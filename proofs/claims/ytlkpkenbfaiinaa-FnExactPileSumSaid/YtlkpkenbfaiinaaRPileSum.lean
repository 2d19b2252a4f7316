/- FnExactPileSum: the law holds for every input that the row speaks of. -/
import Derived.Test.YtlkpkenbfaiinaaRows
import Derived.Test.YtlkpkenbfaiinaaPPileSum1
namespace Go.Proofs.Ytlkpkenbfaiinaa.FnExactPileSumR
open Go.ChangeShapes Go.WideShapes Go.ChangeAt Go.RowKit Go.Sl
theorem own : ownKnob Try.prog.godebug = none := by kernel_rfl
theorem laidOut : laidOutB Try.prog = true := by kernel_rfl
set_option maxRecDepth 100000 in
theorem lifted (os : Os) (started : os.Started) (H : Type) (enc : TypeId × Value → H) :
    ReturnsInHanded {} Try.checked os 10 .any (Rows.fnExactPileSumSpec.pre6 enc Try.prog Try.f10 Rows.fnExactPileSumRow.domain false) (Rows.fnExactPileSumSpec.post enc Try.prog Try.f10 false true false false) := by
  refine returnsInHanded_of_change_sized (C := Try.checked) own started (by kernel_rfl) Try.func10
    (ChangeSpec.witness6 (enc := enc) (C := Try.checked) false ⟨#[], #[.slice none 0 0], []⟩ 8 (by kernel_rfl) (by kernel_rfl) (by kernel_rfl) (by kernel_rfl)) ?_
  intro W base args ds gs before hval0 hW hcnd hsz0 _
  have hval : ∀ (j : Nat) t v, Try.f10.params[j]? = some t → args[j]? = some v → Value.okWide Try.prog W .any base t v := hval0
  have hW' := hW
  obtain ⟨p, q, hA0, hV, rfl, hfz, hnd⟩ := hW
  have hA : DataW.TrodAll enc Try.prog W 0 (fun _ => true) true Try.f10.params.toList args.toList ds p := hA0
  rw [Try.params10] at hA hval
  obtain ⟨v0, vs0, d0, ds0, p0, q0, hargs, rfl, rfl, k0, r0⟩ := trodAll_cons hA
  obtain ⟨rfl, rfl, rfl⟩ := trodAll_nil r0
  obtain rfl : args = #[v0] := by cases args; simp_all
  obtain ⟨rfl, rfl⟩ := trodVars_none hV
  have lt0 : ∀ x ∈ p0, x.block < W.heap.size := by obtain ⟨m, hm⟩ := k0; exact DataW.trod_lt m _ _ _ hm
  obtain ⟨es0, x0⟩ := open_slice1 sl_64 lf_41 sz_41 (by decide) (hval 0 64 v0 rfl rfl) k0
  clear hA0 hval0
  obtain ⟨a, cap, es, rfl, hlen, hx⟩ := x0.floats
  refine (show LawOk _ _ _ _ from by
    rcases hx with rfl | ⟨b, off, l, u, fr, rfl, hw, hg⟩
    · exact law_of (X := []) (law_PileSum _ _ _ hlen _ (fun _ => toFloat32S_nil _ _)) (by simp)
    · exact law_of (X := [(b, .cells l.toArray u fr)]) (law_PileSum _ _ _ hlen _ (fun h => toFloat32S _ _ _ _ _ _ _ _ rfl hg h)) (by simpa using hw)).mono fun e W' ⟨he, bel⟩ => ?_
  subst he
  exact ⟨_, rfl, _, _, _, [], _, [], hW', trodAll_mk1 (shut_bool un_4 _), ⟨_, _, Below.trod laidOut (by kernel_rfl) (of_decide_eq_true (by kernel_rfl)) k0 bel lt0, rfl, rfl⟩, rfl, bel.frame _, fun h => by cases h⟩
theorem over : Rows.fnExactPileSumRow.holds Try.pinned (OpenSpec.ofChange Rows.fnExactPileSumSpec) :=
  OpenClaim.holds_of_wide 10 Try.f10 rfl rfl rfl rfl rfl rfl rfl ⟨rfl, rfl, rfl, rfl, rfl⟩ rfl rfl rfl rfl rfl (by kernel_rfl) Try.func10 (by kernel_rfl)
    (of_decide_eq_true (by kernel_rfl)) (by unfold Func.isWrapper; first | (rw [if_pos (by decide +kernel)]; kernel_rfl) | (rw [if_neg (by decide +kernel)]; exact ⟨rfl, rfl⟩))
    (fun os started H enc _ => lifted os started H enc)
end Go.Proofs.Ytlkpkenbfaiinaa.FnExactPileSumR
namespace Go.Proofs.Ytlkpkenbfaiinaa
theorem fnExactPileSum_holds : Rows.FnExactPileSumSaid := FnExactPileSumR.over
end Go.Proofs.Ytlkpkenbfaiinaa
