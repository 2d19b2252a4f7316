/- Walks of the functions of the program and of the reference, and what each of them returns. -/
import Derived.Test.YtlkpkenbfaiinaaFacts
set_option linter.unusedVariables false
set_option linter.unusedSimpArgs false
namespace Go.Proofs.Ytlkpkenbfaiinaa
open Go.Sl
set_option maxRecDepth 20000 in
theorem within (n lo hi : Int) : SpecV Try.prog 130 [.int .i64 n, .int .i64 lo, .int .i64 hi] [] (.bool (inR n lo hi)) := by
  refine spec_of Try.func130 rfl Try.ntmps130 rfl (fun w0 => ?_)
  refine K_seq ?_
  refine R_region ?_
  refine r_assign rfl rfl rfl ?_
  refine R_nil ?_
  refine K_tn ?_
  refine K_seq ?_
  refine R_region ?_
  refine r_move rfl rfl rfl ?_
  refine r_move rfl rfl rfl ?_
  refine s_geq rfl rfl rfl rfl (fun h9 => ?_) (fun h9 => ?_)
  · first
    | (exfalso; omega)
    |
      refine r_move rfl rfl rfl ?_
      refine r_move rfl rfl rfl ?_
      refine r_move rfl rfl rfl ?_
      refine v_cmp rfl rfl rfl rfl (fun _ _ => c_leq) ?_
      refine r_pick_t rfl rfl rfl rfl ?_
      refine r_assign rfl rfl rfl ?_
      refine R_nil ?_
      refine K_tn ?_
      refine K_ret ?_
      refine K_done (H' := []) rfl rfl (.s (.tmp rfl) .z) (by repeat (first | exact .z | apply Rems.s Rem.z | apply Rems.s (Rem.s Rem.z) | apply Rems.s (Rem.s (Rem.s Rem.z)) | apply Rems.s (Rem.s (Rem.s (Rem.s Rem.z))) | apply Rems.s (Rem.s (Rem.s (Rem.s (Rem.s Rem.z)))) | apply Rems.s (Rem.s (Rem.s (Rem.s (Rem.s (Rem.s Rem.z))))) | apply Rems.s (Rem.s (Rem.s (Rem.s (Rem.s (Rem.s (Rem.s Rem.z)))))) | apply Rems.s (Rem.s (Rem.s (Rem.s (Rem.s (Rem.s (Rem.s (Rem.s Rem.z))))))) | apply Rems.s (Rem.s (Rem.s (Rem.s (Rem.s (Rem.s (Rem.s (Rem.s (Rem.s Rem.z)))))))) | apply Rems.s (Rem.s (Rem.s (Rem.s (Rem.s (Rem.s (Rem.s (Rem.s (Rem.s (Rem.s Rem.z))))))))))) ?_
      refine ⟨?_, rfl⟩
      simp [packV, inR, *]
  · first
    | (exfalso; omega)
    |
      refine r_move rfl rfl rfl ?_
      refine r_skip rfl rfl ?_
      refine r_skip rfl rfl ?_
      refine r_skip rfl rfl ?_
      refine r_pick_f rfl rfl rfl rfl ?_
      refine r_assign rfl rfl rfl ?_
      refine R_nil ?_
      refine K_tn ?_
      refine K_ret ?_
      refine K_done (H' := []) rfl rfl (.s (.tmp rfl) .z) (by repeat (first | exact .z | apply Rems.s Rem.z | apply Rems.s (Rem.s Rem.z) | apply Rems.s (Rem.s (Rem.s Rem.z)) | apply Rems.s (Rem.s (Rem.s (Rem.s Rem.z))) | apply Rems.s (Rem.s (Rem.s (Rem.s (Rem.s Rem.z)))) | apply Rems.s (Rem.s (Rem.s (Rem.s (Rem.s (Rem.s Rem.z))))) | apply Rems.s (Rem.s (Rem.s (Rem.s (Rem.s (Rem.s (Rem.s Rem.z)))))) | apply Rems.s (Rem.s (Rem.s (Rem.s (Rem.s (Rem.s (Rem.s (Rem.s Rem.z))))))) | apply Rems.s (Rem.s (Rem.s (Rem.s (Rem.s (Rem.s (Rem.s (Rem.s (Rem.s Rem.z)))))))) | apply Rems.s (Rem.s (Rem.s (Rem.s (Rem.s (Rem.s (Rem.s (Rem.s (Rem.s (Rem.s Rem.z))))))))))) ?_
      refine ⟨?_, rfl⟩
      simp [packV, inR, *]

set_option maxRecDepth 20000 in
theorem l00In (n lo hi : Int) : SpecV Try.prog 79 [.int .i64 n, .int .i64 lo, .int .i64 hi] [] (.bool (inR n lo hi)) := by
  refine spec_of Try.func79 rfl Try.ntmps79 rfl (fun w0 => ?_)
  refine K_seq ?_
  refine R_region ?_
  refine r_assign rfl rfl rfl ?_
  refine R_nil ?_
  refine K_tn ?_
  refine K_seq ?_
  refine R_region ?_
  refine r_move rfl rfl rfl ?_
  refine r_move rfl rfl rfl ?_
  refine s_geq rfl rfl rfl rfl (fun h9 => ?_) (fun h9 => ?_)
  · first
    | (exfalso; omega)
    |
      refine r_move rfl rfl rfl ?_
      refine r_move rfl rfl rfl ?_
      refine r_move rfl rfl rfl ?_
      refine v_cmp rfl rfl rfl rfl (fun _ _ => c_leq) ?_
      refine r_pick_t rfl rfl rfl rfl ?_
      refine r_assign rfl rfl rfl ?_
      refine R_nil ?_
      refine K_tn ?_
      refine K_ret ?_
      refine K_done (H' := []) rfl rfl (.s (.tmp rfl) .z) (by repeat (first | exact .z | apply Rems.s Rem.z | apply Rems.s (Rem.s Rem.z) | apply Rems.s (Rem.s (Rem.s Rem.z)) | apply Rems.s (Rem.s (Rem.s (Rem.s Rem.z))) | apply Rems.s (Rem.s (Rem.s (Rem.s (Rem.s Rem.z)))) | apply Rems.s (Rem.s (Rem.s (Rem.s (Rem.s (Rem.s Rem.z))))) | apply Rems.s (Rem.s (Rem.s (Rem.s (Rem.s (Rem.s (Rem.s Rem.z)))))) | apply Rems.s (Rem.s (Rem.s (Rem.s (Rem.s (Rem.s (Rem.s (Rem.s Rem.z))))))) | apply Rems.s (Rem.s (Rem.s (Rem.s (Rem.s (Rem.s (Rem.s (Rem.s (Rem.s Rem.z)))))))) | apply Rems.s (Rem.s (Rem.s (Rem.s (Rem.s (Rem.s (Rem.s (Rem.s (Rem.s (Rem.s Rem.z))))))))))) ?_
      refine ⟨?_, rfl⟩
      simp [packV, inR, *]
  · first
    | (exfalso; omega)
    |
      refine r_move rfl rfl rfl ?_
      refine r_skip rfl rfl ?_
      refine r_skip rfl rfl ?_
      refine r_skip rfl rfl ?_
      refine r_pick_f rfl rfl rfl rfl ?_
      refine r_assign rfl rfl rfl ?_
      refine R_nil ?_
      refine K_tn ?_
      refine K_ret ?_
      refine K_done (H' := []) rfl rfl (.s (.tmp rfl) .z) (by repeat (first | exact .z | apply Rems.s Rem.z | apply Rems.s (Rem.s Rem.z) | apply Rems.s (Rem.s (Rem.s Rem.z)) | apply Rems.s (Rem.s (Rem.s (Rem.s Rem.z))) | apply Rems.s (Rem.s (Rem.s (Rem.s (Rem.s Rem.z)))) | apply Rems.s (Rem.s (Rem.s (Rem.s (Rem.s (Rem.s Rem.z))))) | apply Rems.s (Rem.s (Rem.s (Rem.s (Rem.s (Rem.s (Rem.s Rem.z)))))) | apply Rems.s (Rem.s (Rem.s (Rem.s (Rem.s (Rem.s (Rem.s (Rem.s Rem.z))))))) | apply Rems.s (Rem.s (Rem.s (Rem.s (Rem.s (Rem.s (Rem.s (Rem.s (Rem.s Rem.z)))))))) | apply Rems.s (Rem.s (Rem.s (Rem.s (Rem.s (Rem.s (Rem.s (Rem.s (Rem.s (Rem.s Rem.z))))))))))) ?_
      refine ⟨?_, rfl⟩
      simp [packV, inR, *]

set_option maxRecDepth 20000 in
theorem IsPart (a : Nat) : SpecV Try.prog 139 [.float .f32 a] [] (.bool (isPart a)) := by
  refine spec_of Try.func139 rfl Try.ntmps139 rfl (fun w0 => ?_)
  refine K_seq ?_
  refine R_region ?_
  refine r_assign rfl rfl rfl ?_
  refine R_nil ?_
  refine K_tn ?_
  refine K_seq ?_
  refine R_region ?_
  refine r_move rfl rfl rfl ?_
  refine s_fcmp rfl rfl rfl rfl (fun _ _ => run_fge) (fun h4 => ?_) (fun h4 => ?_)
  · first
    | (exfalso; omega)
    |
      refine r_move rfl rfl rfl ?_
      refine r_move rfl rfl rfl ?_
      refine v_fcmp rfl rfl rfl rfl (fun _ _ => run_fle) ?_
      refine r_pick_t rfl rfl rfl rfl ?_
      refine r_assign rfl rfl rfl ?_
      refine R_nil ?_
      refine K_tn ?_
      refine K_ret ?_
      refine K_done (H' := []) rfl rfl (.s (.tmp rfl) .z) (by repeat (first | exact .z | apply Rems.s Rem.z | apply Rems.s (Rem.s Rem.z) | apply Rems.s (Rem.s (Rem.s Rem.z)) | apply Rems.s (Rem.s (Rem.s (Rem.s Rem.z))) | apply Rems.s (Rem.s (Rem.s (Rem.s (Rem.s Rem.z)))) | apply Rems.s (Rem.s (Rem.s (Rem.s (Rem.s (Rem.s Rem.z))))) | apply Rems.s (Rem.s (Rem.s (Rem.s (Rem.s (Rem.s (Rem.s Rem.z)))))) | apply Rems.s (Rem.s (Rem.s (Rem.s (Rem.s (Rem.s (Rem.s (Rem.s Rem.z))))))) | apply Rems.s (Rem.s (Rem.s (Rem.s (Rem.s (Rem.s (Rem.s (Rem.s (Rem.s Rem.z)))))))) | apply Rems.s (Rem.s (Rem.s (Rem.s (Rem.s (Rem.s (Rem.s (Rem.s (Rem.s (Rem.s Rem.z))))))))))) ?_
      refine ⟨?_, rfl⟩
      simp [packV, isPart, *]
  · first
    | (exfalso; omega)
    |
      refine r_move rfl rfl rfl ?_
      refine r_skip rfl rfl ?_
      refine r_skip rfl rfl ?_
      refine r_pick_f rfl rfl rfl rfl ?_
      refine r_assign rfl rfl rfl ?_
      refine R_nil ?_
      refine K_tn ?_
      refine K_ret ?_
      refine K_done (H' := []) rfl rfl (.s (.tmp rfl) .z) (by repeat (first | exact .z | apply Rems.s Rem.z | apply Rems.s (Rem.s Rem.z) | apply Rems.s (Rem.s (Rem.s Rem.z)) | apply Rems.s (Rem.s (Rem.s (Rem.s Rem.z))) | apply Rems.s (Rem.s (Rem.s (Rem.s (Rem.s Rem.z)))) | apply Rems.s (Rem.s (Rem.s (Rem.s (Rem.s (Rem.s Rem.z))))) | apply Rems.s (Rem.s (Rem.s (Rem.s (Rem.s (Rem.s (Rem.s Rem.z)))))) | apply Rems.s (Rem.s (Rem.s (Rem.s (Rem.s (Rem.s (Rem.s (Rem.s Rem.z))))))) | apply Rems.s (Rem.s (Rem.s (Rem.s (Rem.s (Rem.s (Rem.s (Rem.s (Rem.s Rem.z)))))))) | apply Rems.s (Rem.s (Rem.s (Rem.s (Rem.s (Rem.s (Rem.s (Rem.s (Rem.s (Rem.s Rem.z))))))))))) ?_
      refine ⟨?_, rfl⟩
      simp [packV, isPart, *]

set_option maxRecDepth 20000 in
theorem l01Part (a : Nat) : SpecV Try.prog 132 [.float .f32 a] [] (.bool (isPart a)) := by
  refine spec_of Try.func132 rfl Try.ntmps132 rfl (fun w0 => ?_)
  refine K_seq ?_
  refine R_region ?_
  refine r_assign rfl rfl rfl ?_
  refine R_nil ?_
  refine K_tn ?_
  refine K_seq ?_
  refine R_region ?_
  refine r_move rfl rfl rfl ?_
  refine s_fcmp rfl rfl rfl rfl (fun _ _ => run_fge) (fun h4 => ?_) (fun h4 => ?_)
  · first
    | (exfalso; omega)
    |
      refine r_move rfl rfl rfl ?_
      refine r_move rfl rfl rfl ?_
      refine v_fcmp rfl rfl rfl rfl (fun _ _ => run_fle) ?_
      refine r_pick_t rfl rfl rfl rfl ?_
      refine r_assign rfl rfl rfl ?_
      refine R_nil ?_
      refine K_tn ?_
      refine K_ret ?_
      refine K_done (H' := []) rfl rfl (.s (.tmp rfl) .z) (by repeat (first | exact .z | apply Rems.s Rem.z | apply Rems.s (Rem.s Rem.z) | apply Rems.s (Rem.s (Rem.s Rem.z)) | apply Rems.s (Rem.s (Rem.s (Rem.s Rem.z))) | apply Rems.s (Rem.s (Rem.s (Rem.s (Rem.s Rem.z)))) | apply Rems.s (Rem.s (Rem.s (Rem.s (Rem.s (Rem.s Rem.z))))) | apply Rems.s (Rem.s (Rem.s (Rem.s (Rem.s (Rem.s (Rem.s Rem.z)))))) | apply Rems.s (Rem.s (Rem.s (Rem.s (Rem.s (Rem.s (Rem.s (Rem.s Rem.z))))))) | apply Rems.s (Rem.s (Rem.s (Rem.s (Rem.s (Rem.s (Rem.s (Rem.s (Rem.s Rem.z)))))))) | apply Rems.s (Rem.s (Rem.s (Rem.s (Rem.s (Rem.s (Rem.s (Rem.s (Rem.s (Rem.s Rem.z))))))))))) ?_
      refine ⟨?_, rfl⟩
      simp [packV, isPart, *]
  · first
    | (exfalso; omega)
    |
      refine r_move rfl rfl rfl ?_
      refine r_skip rfl rfl ?_
      refine r_skip rfl rfl ?_
      refine r_pick_f rfl rfl rfl rfl ?_
      refine r_assign rfl rfl rfl ?_
      refine R_nil ?_
      refine K_tn ?_
      refine K_ret ?_
      refine K_done (H' := []) rfl rfl (.s (.tmp rfl) .z) (by repeat (first | exact .z | apply Rems.s Rem.z | apply Rems.s (Rem.s Rem.z) | apply Rems.s (Rem.s (Rem.s Rem.z)) | apply Rems.s (Rem.s (Rem.s (Rem.s Rem.z))) | apply Rems.s (Rem.s (Rem.s (Rem.s (Rem.s Rem.z)))) | apply Rems.s (Rem.s (Rem.s (Rem.s (Rem.s (Rem.s Rem.z))))) | apply Rems.s (Rem.s (Rem.s (Rem.s (Rem.s (Rem.s (Rem.s Rem.z)))))) | apply Rems.s (Rem.s (Rem.s (Rem.s (Rem.s (Rem.s (Rem.s (Rem.s Rem.z))))))) | apply Rems.s (Rem.s (Rem.s (Rem.s (Rem.s (Rem.s (Rem.s (Rem.s (Rem.s Rem.z)))))))) | apply Rems.s (Rem.s (Rem.s (Rem.s (Rem.s (Rem.s (Rem.s (Rem.s (Rem.s (Rem.s Rem.z))))))))))) ?_
      refine ⟨?_, rfl⟩
      simp [packV, isPart, *]

set_option maxRecDepth 20000 in
theorem sameFloat_num (a : Nat) (h : nan64 a = false) : SpecV Try.prog 41 [.float .f64 a, .float .f64 a] [] (.bool true) := by
  refine spec_of Try.func41 rfl Try.ntmps41 rfl (fun w0 => ?_)
  have hq := feq64_self a
  rw [h] at hq
  refine K_seq ?_
  refine R_region ?_
  refine r_assign rfl rfl rfl ?_
  refine R_nil ?_
  refine K_tn ?_
  refine K_seq ?_
  refine K_seq ?_
  refine R_region ?_
  refine r_move rfl rfl rfl ?_
  refine r_move rfl rfl rfl ?_
  refine s_fcmp64 rfl rfl rfl rfl (fun _ _ => run64_fne) (fun h7 => ?_) (fun h7 => ?_)
  · first
    | (exfalso; simp_all; done)
    |
      refine r_move rfl rfl rfl ?_
      refine r_skip rfl rfl ?_
      refine r_skip rfl rfl ?_
      refine r_skip rfl rfl ?_
      refine r_pick_t rfl rfl rfl rfl ?_
      refine R_nil ?_
      refine K_tn ?_
      refine K_cond_t rfl ?_
      refine K_seq ?_
      refine R_region ?_
      refine r_move rfl rfl rfl ?_
      refine r_move rfl rfl rfl ?_
      refine s_fcmp64 rfl rfl rfl rfl (fun _ _ => run64_fne) (fun h15 => ?_) (fun h15 => ?_)
      · first
        | (exfalso; simp_all; done)
        |
          refine r_move rfl rfl rfl ?_
          refine r_move rfl rfl rfl ?_
          refine r_move rfl rfl rfl ?_
          refine v_fcmp rfl rfl rfl rfl (fun _ _ => run64_fne) ?_
          refine r_pick_t rfl rfl rfl rfl ?_
          refine r_assign rfl rfl rfl ?_
          refine R_nil ?_
          refine K_tn ?_
          refine K_ret ?_
          refine K_tr ?_
          refine K_done (H' := []) rfl rfl (.s (.tmp rfl) .z) (by repeat (first | exact .z | apply Rems.s Rem.z | apply Rems.s (Rem.s Rem.z) | apply Rems.s (Rem.s (Rem.s Rem.z)) | apply Rems.s (Rem.s (Rem.s (Rem.s Rem.z))) | apply Rems.s (Rem.s (Rem.s (Rem.s (Rem.s Rem.z)))) | apply Rems.s (Rem.s (Rem.s (Rem.s (Rem.s (Rem.s Rem.z))))) | apply Rems.s (Rem.s (Rem.s (Rem.s (Rem.s (Rem.s (Rem.s Rem.z)))))) | apply Rems.s (Rem.s (Rem.s (Rem.s (Rem.s (Rem.s (Rem.s (Rem.s Rem.z))))))) | apply Rems.s (Rem.s (Rem.s (Rem.s (Rem.s (Rem.s (Rem.s (Rem.s (Rem.s Rem.z)))))))) | apply Rems.s (Rem.s (Rem.s (Rem.s (Rem.s (Rem.s (Rem.s (Rem.s (Rem.s (Rem.s Rem.z))))))))))) ?_
          refine ⟨?_, rfl⟩
          first | (simp [packV]; done) | (simp_all [packV]; done)
      · first
        | (exfalso; simp_all; done)
        |
          refine r_move rfl rfl rfl ?_
          refine r_skip rfl rfl ?_
          refine r_skip rfl rfl ?_
          refine r_skip rfl rfl ?_
          refine r_pick_f rfl rfl rfl rfl ?_
          refine r_assign rfl rfl rfl ?_
          refine R_nil ?_
          refine K_tn ?_
          refine K_ret ?_
          refine K_tr ?_
          refine K_done (H' := []) rfl rfl (.s (.tmp rfl) .z) (by repeat (first | exact .z | apply Rems.s Rem.z | apply Rems.s (Rem.s Rem.z) | apply Rems.s (Rem.s (Rem.s Rem.z)) | apply Rems.s (Rem.s (Rem.s (Rem.s Rem.z))) | apply Rems.s (Rem.s (Rem.s (Rem.s (Rem.s Rem.z)))) | apply Rems.s (Rem.s (Rem.s (Rem.s (Rem.s (Rem.s Rem.z))))) | apply Rems.s (Rem.s (Rem.s (Rem.s (Rem.s (Rem.s (Rem.s Rem.z)))))) | apply Rems.s (Rem.s (Rem.s (Rem.s (Rem.s (Rem.s (Rem.s (Rem.s Rem.z))))))) | apply Rems.s (Rem.s (Rem.s (Rem.s (Rem.s (Rem.s (Rem.s (Rem.s (Rem.s Rem.z)))))))) | apply Rems.s (Rem.s (Rem.s (Rem.s (Rem.s (Rem.s (Rem.s (Rem.s (Rem.s (Rem.s Rem.z))))))))))) ?_
          refine ⟨?_, rfl⟩
          first | (simp [packV]; done) | (simp_all [packV]; done)
  · first
    | (exfalso; simp_all; done)
    |
      refine r_move rfl rfl rfl ?_
      refine r_move rfl rfl rfl ?_
      refine r_move rfl rfl rfl ?_
      refine s_fcmp64 rfl rfl rfl rfl (fun _ _ => run64_fne) (fun h11 => ?_) (fun h11 => ?_)
      · first
        | (exfalso; simp_all; done)
        |
          refine r_pick_f rfl rfl rfl rfl ?_
          refine R_nil ?_
          refine K_tn ?_
          refine K_cond_t rfl ?_
          refine K_seq ?_
          refine R_region ?_
          refine r_move rfl rfl rfl ?_
          refine r_move rfl rfl rfl ?_
          refine s_fcmp64 rfl rfl rfl rfl (fun _ _ => run64_fne) (fun h15 => ?_) (fun h15 => ?_)
          · first
            | (exfalso; simp_all; done)
            |
              refine r_move rfl rfl rfl ?_
              refine r_move rfl rfl rfl ?_
              refine r_move rfl rfl rfl ?_
              refine v_fcmp rfl rfl rfl rfl (fun _ _ => run64_fne) ?_
              refine r_pick_t rfl rfl rfl rfl ?_
              refine r_assign rfl rfl rfl ?_
              refine R_nil ?_
              refine K_tn ?_
              refine K_ret ?_
              refine K_tr ?_
              refine K_done (H' := []) rfl rfl (.s (.tmp rfl) .z) (by repeat (first | exact .z | apply Rems.s Rem.z | apply Rems.s (Rem.s Rem.z) | apply Rems.s (Rem.s (Rem.s Rem.z)) | apply Rems.s (Rem.s (Rem.s (Rem.s Rem.z))) | apply Rems.s (Rem.s (Rem.s (Rem.s (Rem.s Rem.z)))) | apply Rems.s (Rem.s (Rem.s (Rem.s (Rem.s (Rem.s Rem.z))))) | apply Rems.s (Rem.s (Rem.s (Rem.s (Rem.s (Rem.s (Rem.s Rem.z)))))) | apply Rems.s (Rem.s (Rem.s (Rem.s (Rem.s (Rem.s (Rem.s (Rem.s Rem.z))))))) | apply Rems.s (Rem.s (Rem.s (Rem.s (Rem.s (Rem.s (Rem.s (Rem.s (Rem.s Rem.z)))))))) | apply Rems.s (Rem.s (Rem.s (Rem.s (Rem.s (Rem.s (Rem.s (Rem.s (Rem.s (Rem.s Rem.z))))))))))) ?_
              refine ⟨?_, rfl⟩
              first | (simp [packV]; done) | (simp_all [packV]; done)
          · first
            | (exfalso; simp_all; done)
            |
              refine r_move rfl rfl rfl ?_
              refine r_skip rfl rfl ?_
              refine r_skip rfl rfl ?_
              refine r_skip rfl rfl ?_
              refine r_pick_f rfl rfl rfl rfl ?_
              refine r_assign rfl rfl rfl ?_
              refine R_nil ?_
              refine K_tn ?_
              refine K_ret ?_
              refine K_tr ?_
              refine K_done (H' := []) rfl rfl (.s (.tmp rfl) .z) (by repeat (first | exact .z | apply Rems.s Rem.z | apply Rems.s (Rem.s Rem.z) | apply Rems.s (Rem.s (Rem.s Rem.z)) | apply Rems.s (Rem.s (Rem.s (Rem.s Rem.z))) | apply Rems.s (Rem.s (Rem.s (Rem.s (Rem.s Rem.z)))) | apply Rems.s (Rem.s (Rem.s (Rem.s (Rem.s (Rem.s Rem.z))))) | apply Rems.s (Rem.s (Rem.s (Rem.s (Rem.s (Rem.s (Rem.s Rem.z)))))) | apply Rems.s (Rem.s (Rem.s (Rem.s (Rem.s (Rem.s (Rem.s (Rem.s Rem.z))))))) | apply Rems.s (Rem.s (Rem.s (Rem.s (Rem.s (Rem.s (Rem.s (Rem.s (Rem.s Rem.z)))))))) | apply Rems.s (Rem.s (Rem.s (Rem.s (Rem.s (Rem.s (Rem.s (Rem.s (Rem.s (Rem.s Rem.z))))))))))) ?_
              refine ⟨?_, rfl⟩
              first | (simp [packV]; done) | (simp_all [packV]; done)
      · first
        | (exfalso; simp_all; done)
        |
          refine r_pick_f rfl rfl rfl rfl ?_
          refine R_nil ?_
          refine K_tn ?_
          refine K_cond_f rfl ?_
          refine K_skip ?_
          refine K_tn ?_
          refine K_seq ?_
          refine K_seq ?_
          refine R_region ?_
          refine r_move rfl rfl rfl ?_
          refine s_fcmp64 rfl rfl rfl rfl (fun _ _ => run64_feq) (fun h22 => ?_) (fun h22 => ?_)
          · first
            | (exfalso; simp_all; done)
            |
              refine r_move rfl rfl rfl ?_
              refine r_move rfl rfl rfl ?_
              refine s_fcmp64 rfl rfl rfl rfl (fun _ _ => run64_feq) (fun h25 => ?_) (fun h25 => ?_)
              · first
                | (exfalso; simp_all; done)
                |
                  refine r_pick_t rfl rfl rfl rfl ?_
                  refine R_nil ?_
                  refine K_tn ?_
                  refine K_cond_t rfl ?_
                  refine K_seq ?_
                  refine R_region ?_
                  obtain ⟨r, hr⟩ := quo64_zero (p := a) (by assumption)
                  refine r_move rfl rfl rfl ?_
                  refine r_fl rfl rfl rfl rfl (hr) ?_
                  refine v_fcmp rfl rfl rfl rfl (fun _ _ => run64_fgt) ?_
                  refine r_move rfl rfl rfl ?_
                  refine r_fl rfl rfl rfl rfl (hr) ?_
                  refine v_fcmp rfl rfl rfl rfl (fun _ _ => run64_fgt) ?_
                  refine r_eqB un_4 rfl rfl rfl rfl ?_
                  refine r_assign rfl rfl rfl ?_
                  refine R_nil ?_
                  refine K_tn ?_
                  refine K_ret ?_
                  refine K_tr ?_
                  refine K_done (H' := []) rfl rfl (.s (.tmp rfl) .z) (by repeat (first | exact .z | apply Rems.s Rem.z | apply Rems.s (Rem.s Rem.z) | apply Rems.s (Rem.s (Rem.s Rem.z)) | apply Rems.s (Rem.s (Rem.s (Rem.s Rem.z))) | apply Rems.s (Rem.s (Rem.s (Rem.s (Rem.s Rem.z)))) | apply Rems.s (Rem.s (Rem.s (Rem.s (Rem.s (Rem.s Rem.z))))) | apply Rems.s (Rem.s (Rem.s (Rem.s (Rem.s (Rem.s (Rem.s Rem.z)))))) | apply Rems.s (Rem.s (Rem.s (Rem.s (Rem.s (Rem.s (Rem.s (Rem.s Rem.z))))))) | apply Rems.s (Rem.s (Rem.s (Rem.s (Rem.s (Rem.s (Rem.s (Rem.s (Rem.s Rem.z)))))))) | apply Rems.s (Rem.s (Rem.s (Rem.s (Rem.s (Rem.s (Rem.s (Rem.s (Rem.s (Rem.s Rem.z))))))))))) ?_
                  refine ⟨?_, rfl⟩
                  first | (simp [packV]; done) | (simp_all [packV]; done)
              · first
                | (exfalso; simp_all; done)
                |
                  refine r_pick_t rfl rfl rfl rfl ?_
                  refine R_nil ?_
                  refine K_tn ?_
                  refine K_cond_f rfl ?_
                  refine K_skip ?_
                  refine K_tn ?_
                  refine K_seq ?_
                  refine R_region ?_
                  refine r_move rfl rfl rfl ?_
                  refine r_move rfl rfl rfl ?_
                  refine v_fcmp rfl rfl rfl rfl (fun _ _ => run64_feq) ?_
                  refine r_assign rfl rfl rfl ?_
                  refine R_nil ?_
                  refine K_tn ?_
                  refine K_ret ?_
                  refine K_done (H' := []) rfl rfl (.s (.tmp rfl) .z) (by repeat (first | exact .z | apply Rems.s Rem.z | apply Rems.s (Rem.s Rem.z) | apply Rems.s (Rem.s (Rem.s Rem.z)) | apply Rems.s (Rem.s (Rem.s (Rem.s Rem.z))) | apply Rems.s (Rem.s (Rem.s (Rem.s (Rem.s Rem.z)))) | apply Rems.s (Rem.s (Rem.s (Rem.s (Rem.s (Rem.s Rem.z))))) | apply Rems.s (Rem.s (Rem.s (Rem.s (Rem.s (Rem.s (Rem.s Rem.z)))))) | apply Rems.s (Rem.s (Rem.s (Rem.s (Rem.s (Rem.s (Rem.s (Rem.s Rem.z))))))) | apply Rems.s (Rem.s (Rem.s (Rem.s (Rem.s (Rem.s (Rem.s (Rem.s (Rem.s Rem.z)))))))) | apply Rems.s (Rem.s (Rem.s (Rem.s (Rem.s (Rem.s (Rem.s (Rem.s (Rem.s (Rem.s Rem.z))))))))))) ?_
                  refine ⟨?_, rfl⟩
                  first | (simp [packV]; done) | (simp_all [packV]; done)
          · first
            | (exfalso; simp_all; done)
            |
              refine r_move rfl rfl rfl ?_
              refine r_skip rfl rfl ?_
              refine r_skip rfl rfl ?_
              refine r_pick_f rfl rfl rfl rfl ?_
              refine R_nil ?_
              refine K_tn ?_
              refine K_cond_f rfl ?_
              refine K_skip ?_
              refine K_tn ?_
              refine K_seq ?_
              refine R_region ?_
              refine r_move rfl rfl rfl ?_
              refine r_move rfl rfl rfl ?_
              refine v_fcmp rfl rfl rfl rfl (fun _ _ => run64_feq) ?_
              refine r_assign rfl rfl rfl ?_
              refine R_nil ?_
              refine K_tn ?_
              refine K_ret ?_
              refine K_done (H' := []) rfl rfl (.s (.tmp rfl) .z) (by repeat (first | exact .z | apply Rems.s Rem.z | apply Rems.s (Rem.s Rem.z) | apply Rems.s (Rem.s (Rem.s Rem.z)) | apply Rems.s (Rem.s (Rem.s (Rem.s Rem.z))) | apply Rems.s (Rem.s (Rem.s (Rem.s (Rem.s Rem.z)))) | apply Rems.s (Rem.s (Rem.s (Rem.s (Rem.s (Rem.s Rem.z))))) | apply Rems.s (Rem.s (Rem.s (Rem.s (Rem.s (Rem.s (Rem.s Rem.z)))))) | apply Rems.s (Rem.s (Rem.s (Rem.s (Rem.s (Rem.s (Rem.s (Rem.s Rem.z))))))) | apply Rems.s (Rem.s (Rem.s (Rem.s (Rem.s (Rem.s (Rem.s (Rem.s (Rem.s Rem.z)))))))) | apply Rems.s (Rem.s (Rem.s (Rem.s (Rem.s (Rem.s (Rem.s (Rem.s (Rem.s (Rem.s Rem.z))))))))))) ?_
              refine ⟨?_, rfl⟩
              first | (simp [packV]; done) | (simp_all [packV]; done)

set_option maxRecDepth 20000 in
theorem sameFloat_nan (a b : Nat) (h : nan64 a = true) (h2 : nan64 b = true) : SpecV Try.prog 41 [.float .f64 a, .float .f64 b] [] (.bool true) := by
  refine spec_of Try.func41 rfl Try.ntmps41 rfl (fun w0 => ?_)
  have hq := feq64_self a
  rw [h] at hq
  have hq2 := feq64_self b
  rw [h2] at hq2
  refine K_seq ?_
  refine R_region ?_
  refine r_assign rfl rfl rfl ?_
  refine R_nil ?_
  refine K_tn ?_
  refine K_seq ?_
  refine K_seq ?_
  refine R_region ?_
  refine r_move rfl rfl rfl ?_
  refine r_move rfl rfl rfl ?_
  refine s_fcmp64 rfl rfl rfl rfl (fun _ _ => run64_fne) (fun h7 => ?_) (fun h7 => ?_)
  · first
    | (exfalso; simp_all; done)
    |
      refine r_move rfl rfl rfl ?_
      refine r_skip rfl rfl ?_
      refine r_skip rfl rfl ?_
      refine r_skip rfl rfl ?_
      refine r_pick_t rfl rfl rfl rfl ?_
      refine R_nil ?_
      refine K_tn ?_
      refine K_cond_t rfl ?_
      refine K_seq ?_
      refine R_region ?_
      refine r_move rfl rfl rfl ?_
      refine r_move rfl rfl rfl ?_
      refine s_fcmp64 rfl rfl rfl rfl (fun _ _ => run64_fne) (fun h15 => ?_) (fun h15 => ?_)
      · first
        | (exfalso; simp_all; done)
        |
          refine r_move rfl rfl rfl ?_
          refine r_move rfl rfl rfl ?_
          refine r_move rfl rfl rfl ?_
          refine v_fcmp rfl rfl rfl rfl (fun _ _ => run64_fne) ?_
          refine r_pick_t rfl rfl rfl rfl ?_
          refine r_assign rfl rfl rfl ?_
          refine R_nil ?_
          refine K_tn ?_
          refine K_ret ?_
          refine K_tr ?_
          refine K_done (H' := []) rfl rfl (.s (.tmp rfl) .z) (by repeat (first | exact .z | apply Rems.s Rem.z | apply Rems.s (Rem.s Rem.z) | apply Rems.s (Rem.s (Rem.s Rem.z)) | apply Rems.s (Rem.s (Rem.s (Rem.s Rem.z))) | apply Rems.s (Rem.s (Rem.s (Rem.s (Rem.s Rem.z)))) | apply Rems.s (Rem.s (Rem.s (Rem.s (Rem.s (Rem.s Rem.z))))) | apply Rems.s (Rem.s (Rem.s (Rem.s (Rem.s (Rem.s (Rem.s Rem.z)))))) | apply Rems.s (Rem.s (Rem.s (Rem.s (Rem.s (Rem.s (Rem.s (Rem.s Rem.z))))))) | apply Rems.s (Rem.s (Rem.s (Rem.s (Rem.s (Rem.s (Rem.s (Rem.s (Rem.s Rem.z)))))))) | apply Rems.s (Rem.s (Rem.s (Rem.s (Rem.s (Rem.s (Rem.s (Rem.s (Rem.s (Rem.s Rem.z))))))))))) ?_
          refine ⟨?_, rfl⟩
          first | (simp [packV]; done) | (simp_all [packV]; done)
      · first
        | (exfalso; simp_all; done)
        |
          refine r_move rfl rfl rfl ?_
          refine r_skip rfl rfl ?_
          refine r_skip rfl rfl ?_
          refine r_skip rfl rfl ?_
          refine r_pick_f rfl rfl rfl rfl ?_
          refine r_assign rfl rfl rfl ?_
          refine R_nil ?_
          refine K_tn ?_
          refine K_ret ?_
          refine K_tr ?_
          refine K_done (H' := []) rfl rfl (.s (.tmp rfl) .z) (by repeat (first | exact .z | apply Rems.s Rem.z | apply Rems.s (Rem.s Rem.z) | apply Rems.s (Rem.s (Rem.s Rem.z)) | apply Rems.s (Rem.s (Rem.s (Rem.s Rem.z))) | apply Rems.s (Rem.s (Rem.s (Rem.s (Rem.s Rem.z)))) | apply Rems.s (Rem.s (Rem.s (Rem.s (Rem.s (Rem.s Rem.z))))) | apply Rems.s (Rem.s (Rem.s (Rem.s (Rem.s (Rem.s (Rem.s Rem.z)))))) | apply Rems.s (Rem.s (Rem.s (Rem.s (Rem.s (Rem.s (Rem.s (Rem.s Rem.z))))))) | apply Rems.s (Rem.s (Rem.s (Rem.s (Rem.s (Rem.s (Rem.s (Rem.s (Rem.s Rem.z)))))))) | apply Rems.s (Rem.s (Rem.s (Rem.s (Rem.s (Rem.s (Rem.s (Rem.s (Rem.s (Rem.s Rem.z))))))))))) ?_
          refine ⟨?_, rfl⟩
          first | (simp [packV]; done) | (simp_all [packV]; done)
  · first
    | (exfalso; simp_all; done)
    |
      refine r_move rfl rfl rfl ?_
      refine r_move rfl rfl rfl ?_
      refine r_move rfl rfl rfl ?_
      refine s_fcmp64 rfl rfl rfl rfl (fun _ _ => run64_fne) (fun h11 => ?_) (fun h11 => ?_)
      · first
        | (exfalso; simp_all; done)
        |
          refine r_pick_f rfl rfl rfl rfl ?_
          refine R_nil ?_
          refine K_tn ?_
          refine K_cond_t rfl ?_
          refine K_seq ?_
          refine R_region ?_
          refine r_move rfl rfl rfl ?_
          refine r_move rfl rfl rfl ?_
          refine s_fcmp64 rfl rfl rfl rfl (fun _ _ => run64_fne) (fun h15 => ?_) (fun h15 => ?_)
          · first
            | (exfalso; simp_all; done)
            |
              refine r_move rfl rfl rfl ?_
              refine r_move rfl rfl rfl ?_
              refine r_move rfl rfl rfl ?_
              refine v_fcmp rfl rfl rfl rfl (fun _ _ => run64_fne) ?_
              refine r_pick_t rfl rfl rfl rfl ?_
              refine r_assign rfl rfl rfl ?_
              refine R_nil ?_
              refine K_tn ?_
              refine K_ret ?_
              refine K_tr ?_
              refine K_done (H' := []) rfl rfl (.s (.tmp rfl) .z) (by repeat (first | exact .z | apply Rems.s Rem.z | apply Rems.s (Rem.s Rem.z) | apply Rems.s (Rem.s (Rem.s Rem.z)) | apply Rems.s (Rem.s (Rem.s (Rem.s Rem.z))) | apply Rems.s (Rem.s (Rem.s (Rem.s (Rem.s Rem.z)))) | apply Rems.s (Rem.s (Rem.s (Rem.s (Rem.s (Rem.s Rem.z))))) | apply Rems.s (Rem.s (Rem.s (Rem.s (Rem.s (Rem.s (Rem.s Rem.z)))))) | apply Rems.s (Rem.s (Rem.s (Rem.s (Rem.s (Rem.s (Rem.s (Rem.s Rem.z))))))) | apply Rems.s (Rem.s (Rem.s (Rem.s (Rem.s (Rem.s (Rem.s (Rem.s (Rem.s Rem.z)))))))) | apply Rems.s (Rem.s (Rem.s (Rem.s (Rem.s (Rem.s (Rem.s (Rem.s (Rem.s (Rem.s Rem.z))))))))))) ?_
              refine ⟨?_, rfl⟩
              first | (simp [packV]; done) | (simp_all [packV]; done)
          · first
            | (exfalso; simp_all; done)
            |
              refine r_move rfl rfl rfl ?_
              refine r_skip rfl rfl ?_
              refine r_skip rfl rfl ?_
              refine r_skip rfl rfl ?_
              refine r_pick_f rfl rfl rfl rfl ?_
              refine r_assign rfl rfl rfl ?_
              refine R_nil ?_
              refine K_tn ?_
              refine K_ret ?_
              refine K_tr ?_
              refine K_done (H' := []) rfl rfl (.s (.tmp rfl) .z) (by repeat (first | exact .z | apply Rems.s Rem.z | apply Rems.s (Rem.s Rem.z) | apply Rems.s (Rem.s (Rem.s Rem.z)) | apply Rems.s (Rem.s (Rem.s (Rem.s Rem.z))) | apply Rems.s (Rem.s (Rem.s (Rem.s (Rem.s Rem.z)))) | apply Rems.s (Rem.s (Rem.s (Rem.s (Rem.s (Rem.s Rem.z))))) | apply Rems.s (Rem.s (Rem.s (Rem.s (Rem.s (Rem.s (Rem.s Rem.z)))))) | apply Rems.s (Rem.s (Rem.s (Rem.s (Rem.s (Rem.s (Rem.s (Rem.s Rem.z))))))) | apply Rems.s (Rem.s (Rem.s (Rem.s (Rem.s (Rem.s (Rem.s (Rem.s (Rem.s Rem.z)))))))) | apply Rems.s (Rem.s (Rem.s (Rem.s (Rem.s (Rem.s (Rem.s (Rem.s (Rem.s (Rem.s Rem.z))))))))))) ?_
              refine ⟨?_, rfl⟩
              first | (simp [packV]; done) | (simp_all [packV]; done)
      · first
        | (exfalso; simp_all; done)
        |
          refine r_pick_f rfl rfl rfl rfl ?_
          refine R_nil ?_
          refine K_tn ?_
          refine K_cond_f rfl ?_
          refine K_skip ?_
          refine K_tn ?_
          refine K_seq ?_
          refine K_seq ?_
          refine R_region ?_
          refine r_move rfl rfl rfl ?_
          refine s_fcmp64 rfl rfl rfl rfl (fun _ _ => run64_feq) (fun h22 => ?_) (fun h22 => ?_)
          · first
            | (exfalso; simp_all; done)
            |
              refine r_move rfl rfl rfl ?_
              refine r_move rfl rfl rfl ?_
              refine s_fcmp64 rfl rfl rfl rfl (fun _ _ => run64_feq) (fun h25 => ?_) (fun h25 => ?_)
              · first
                | (exfalso; simp_all; done)
                |
                  refine r_pick_t rfl rfl rfl rfl ?_
                  refine R_nil ?_
                  refine K_tn ?_
                  refine K_cond_t rfl ?_
                  refine K_seq ?_
                  refine R_region ?_
                  refine r_move rfl rfl rfl ?_
                  refine r_fl rfl rfl rfl rfl (by exfalso; simp_all) ?_
                  refine v_fcmp rfl rfl rfl rfl (fun _ _ => run64_fgt) ?_
                  refine r_move rfl rfl rfl ?_
                  refine r_fl rfl rfl rfl rfl (by exfalso; simp_all) ?_
                  refine v_fcmp rfl rfl rfl rfl (fun _ _ => run64_fgt) ?_
                  refine r_eqB un_4 rfl rfl rfl rfl ?_
                  refine r_assign rfl rfl rfl ?_
                  refine R_nil ?_
                  refine K_tn ?_
                  refine K_ret ?_
                  refine K_tr ?_
                  refine K_done (H' := []) rfl rfl (.s (.tmp rfl) .z) (by repeat (first | exact .z | apply Rems.s Rem.z | apply Rems.s (Rem.s Rem.z) | apply Rems.s (Rem.s (Rem.s Rem.z)) | apply Rems.s (Rem.s (Rem.s (Rem.s Rem.z))) | apply Rems.s (Rem.s (Rem.s (Rem.s (Rem.s Rem.z)))) | apply Rems.s (Rem.s (Rem.s (Rem.s (Rem.s (Rem.s Rem.z))))) | apply Rems.s (Rem.s (Rem.s (Rem.s (Rem.s (Rem.s (Rem.s Rem.z)))))) | apply Rems.s (Rem.s (Rem.s (Rem.s (Rem.s (Rem.s (Rem.s (Rem.s Rem.z))))))) | apply Rems.s (Rem.s (Rem.s (Rem.s (Rem.s (Rem.s (Rem.s (Rem.s (Rem.s Rem.z)))))))) | apply Rems.s (Rem.s (Rem.s (Rem.s (Rem.s (Rem.s (Rem.s (Rem.s (Rem.s (Rem.s Rem.z))))))))))) ?_
                  refine ⟨?_, rfl⟩
                  first | (simp [packV]; done) | (simp_all [packV]; done)
              · first
                | (exfalso; simp_all; done)
                |
                  refine r_pick_t rfl rfl rfl rfl ?_
                  refine R_nil ?_
                  refine K_tn ?_
                  refine K_cond_f rfl ?_
                  refine K_skip ?_
                  refine K_tn ?_
                  refine K_seq ?_
                  refine R_region ?_
                  refine r_move rfl rfl rfl ?_
                  refine r_move rfl rfl rfl ?_
                  refine v_fcmp rfl rfl rfl rfl (fun _ _ => run64_feq) ?_
                  refine r_assign rfl rfl rfl ?_
                  refine R_nil ?_
                  refine K_tn ?_
                  refine K_ret ?_
                  refine K_done (H' := []) rfl rfl (.s (.tmp rfl) .z) (by repeat (first | exact .z | apply Rems.s Rem.z | apply Rems.s (Rem.s Rem.z) | apply Rems.s (Rem.s (Rem.s Rem.z)) | apply Rems.s (Rem.s (Rem.s (Rem.s Rem.z))) | apply Rems.s (Rem.s (Rem.s (Rem.s (Rem.s Rem.z)))) | apply Rems.s (Rem.s (Rem.s (Rem.s (Rem.s (Rem.s Rem.z))))) | apply Rems.s (Rem.s (Rem.s (Rem.s (Rem.s (Rem.s (Rem.s Rem.z)))))) | apply Rems.s (Rem.s (Rem.s (Rem.s (Rem.s (Rem.s (Rem.s (Rem.s Rem.z))))))) | apply Rems.s (Rem.s (Rem.s (Rem.s (Rem.s (Rem.s (Rem.s (Rem.s (Rem.s Rem.z)))))))) | apply Rems.s (Rem.s (Rem.s (Rem.s (Rem.s (Rem.s (Rem.s (Rem.s (Rem.s (Rem.s Rem.z))))))))))) ?_
                  refine ⟨?_, rfl⟩
                  first | (simp [packV]; done) | (simp_all [packV]; done)
          · first
            | (exfalso; simp_all; done)
            |
              refine r_move rfl rfl rfl ?_
              refine r_skip rfl rfl ?_
              refine r_skip rfl rfl ?_
              refine r_pick_f rfl rfl rfl rfl ?_
              refine R_nil ?_
              refine K_tn ?_
              refine K_cond_f rfl ?_
              refine K_skip ?_
              refine K_tn ?_
              refine K_seq ?_
              refine R_region ?_
              refine r_move rfl rfl rfl ?_
              refine r_move rfl rfl rfl ?_
              refine v_fcmp rfl rfl rfl rfl (fun _ _ => run64_feq) ?_
              refine r_assign rfl rfl rfl ?_
              refine R_nil ?_
              refine K_tn ?_
              refine K_ret ?_
              refine K_done (H' := []) rfl rfl (.s (.tmp rfl) .z) (by repeat (first | exact .z | apply Rems.s Rem.z | apply Rems.s (Rem.s Rem.z) | apply Rems.s (Rem.s (Rem.s Rem.z)) | apply Rems.s (Rem.s (Rem.s (Rem.s Rem.z))) | apply Rems.s (Rem.s (Rem.s (Rem.s (Rem.s Rem.z)))) | apply Rems.s (Rem.s (Rem.s (Rem.s (Rem.s (Rem.s Rem.z))))) | apply Rems.s (Rem.s (Rem.s (Rem.s (Rem.s (Rem.s (Rem.s Rem.z)))))) | apply Rems.s (Rem.s (Rem.s (Rem.s (Rem.s (Rem.s (Rem.s (Rem.s Rem.z))))))) | apply Rems.s (Rem.s (Rem.s (Rem.s (Rem.s (Rem.s (Rem.s (Rem.s (Rem.s Rem.z)))))))) | apply Rems.s (Rem.s (Rem.s (Rem.s (Rem.s (Rem.s (Rem.s (Rem.s (Rem.s (Rem.s Rem.z))))))))))) ?_
              refine ⟨?_, rfl⟩
              first | (simp [packV]; done) | (simp_all [packV]; done)

set_option maxRecDepth 20000 in
theorem indexFuncF (b off len cap : Nat) (l : List Value) (u : TypeId) (fr : Nat × Nat) (es : List Nat) (he : es.length = len) (hl : ∀ i, i < len → l[off + i * 1]? = some (.float .f32 (es.getD i 0))) (f : FuncId) (first cc : List Value) (X : Hp) (p : Nat → Bool) (hcb : callB Try.prog f = true) (hf : ∀ a, SpecV Try.prog f (first ++ [.float .f32 a] ++ cc) X (.bool (p a))) (hb : len ≤ 9223372036854775807) : SpecV Try.prog 151 [.slice (some ⟨b, off, none⟩) len cap, .func (.func f) first.toArray cc.toArray] ((b, .cells l.toArray u fr) :: X) (.int .i64 (idxOf p es)) := by
  refine spec_of Try.func151 rfl Try.ntmps151 rfl (fun w0 => ?_)
  refine K_seq ?_
  refine R_region ?_
  refine r_assign rfl rfl rfl ?_
  refine R_nil ?_
  refine K_tn ?_
  refine K_seq ?_
  refine K_seq ?_
  refine R_region ?_
  refine r_move rfl rfl rfl ?_
  refine r_lenS sl_64 rfl rfl rfl ?_
  refine r_move rfl rfl rfl ?_
  refine R_nil ?_
  refine K_tn ?_
  refine K_block ?_
  refine K_loop (fun (k : Nat) => k ≤ len ∧ ∀ j, j < k → p (es.getD j 0) = false) (fun k => [(0, .slice (some ⟨b, off, none⟩) len cap), (1, .func (.func f) first.toArray cc.toArray), (7, .int .i64 (len : Int)), (8, .int .i64 (k : Int))]) (fun _ => []) (fun k => len - k) 0 (by exact ⟨Nat.zero_le _, fun j hj => absurd hj (Nat.not_lt_zero _)⟩) (by repeat (first | exact trivial | refine ⟨rfl, ?_⟩)) (by repeat (first | exact .z | apply Rems.s Rem.z | apply Rems.s (Rem.s Rem.z) | apply Rems.s (Rem.s (Rem.s Rem.z)) | apply Rems.s (Rem.s (Rem.s (Rem.s Rem.z))) | apply Rems.s (Rem.s (Rem.s (Rem.s (Rem.s Rem.z)))) | apply Rems.s (Rem.s (Rem.s (Rem.s (Rem.s (Rem.s Rem.z))))) | apply Rems.s (Rem.s (Rem.s (Rem.s (Rem.s (Rem.s (Rem.s Rem.z)))))) | apply Rems.s (Rem.s (Rem.s (Rem.s (Rem.s (Rem.s (Rem.s (Rem.s Rem.z))))))) | apply Rems.s (Rem.s (Rem.s (Rem.s (Rem.s (Rem.s (Rem.s (Rem.s (Rem.s Rem.z)))))))) | apply Rems.s (Rem.s (Rem.s (Rem.s (Rem.s (Rem.s (Rem.s (Rem.s (Rem.s (Rem.s Rem.z))))))))))) (fun k hp => ?_)
  obtain ⟨hk, hno⟩ := hp
  refine K_seq ?_
  refine R_region ?_
  refine s_lss rfl rfl rfl rfl (fun h9 => ?_) (fun h9 => ?_)
  · first
    | (exfalso; omega)
    |
      refine R_nil ?_
      refine K_tn ?_
      refine K_seq ?_
      refine K_cond_t rfl ?_
      refine K_skip ?_
      refine K_tn ?_
      refine K_seq ?_
      refine K_block ?_
      refine K_seq ?_
      refine R_region ?_
      refine r_move rfl rfl rfl ?_
      refine r_assign rfl rfl rfl ?_
      refine R_nil ?_
      refine K_tn ?_
      refine K_seq ?_
      refine R_region ?_
      refine r_move rfl rfl rfl ?_
      refine r_move rfl rfl rfl ?_
      refine r_move rfl rfl rfl ?_
      refine r_indexS sl_64 sz_41 rfl rfl rfl rfl (by omega) ?_
      refine r_load ag_41 rfl rfl rfl (by first | exact .h .z | exact .h (.s .z) | exact .h (.s (.s .z)) | exact .h (.s (.s (.s .z))) | exact .h (.s (.s (.s (.s .z)))) | exact .h (.s (.s (.s (.s (.s .z))))) | exact .h (.s (.s (.s (.s (.s (.s .z)))))) | exact .h (.s (.s (.s (.s (.s (.s (.s .z))))))) | exact .h (.s (.s (.s (.s (.s (.s (.s (.s .z)))))))) | exact .x .z | exact .x (.s .z) | exact .x (.s (.s .z)) | exact .x (.s (.s (.s .z))) | exact .x (.s (.s (.s (.s .z)))) | exact .x (.s (.s (.s (.s (.s .z))))) | exact .x (.s (.s (.s (.s (.s (.s .z))))))) (by first | rfl | exact hl _ (by omega)) ?_
      refine s_callV hcb rfl rfl rfl rfl rfl (hf _) (insMono (insSelf _ _)) (fun h16 => ?_) (fun h16 => ?_)
      · first
        | (exfalso; omega)
        |
          refine R_nil ?_
          refine K_tn ?_
          refine K_cond_t rfl ?_
          refine K_seq ?_
          refine R_region ?_
          refine r_move rfl rfl rfl ?_
          refine r_assign rfl rfl rfl ?_
          refine R_nil ?_
          refine K_tn ?_
          refine K_ret ?_
          refine K_br ?_
          refine K_tr ?_
          refine K_tr ?_
          refine K_br ?_
          refine K_tr ?_
          refine K_done (H' := []) rfl rfl (.s (.tmp rfl) .z) (by repeat (first | exact .z | apply Rems.s Rem.z | apply Rems.s (Rem.s Rem.z) | apply Rems.s (Rem.s (Rem.s Rem.z)) | apply Rems.s (Rem.s (Rem.s (Rem.s Rem.z))) | apply Rems.s (Rem.s (Rem.s (Rem.s (Rem.s Rem.z)))) | apply Rems.s (Rem.s (Rem.s (Rem.s (Rem.s (Rem.s Rem.z))))) | apply Rems.s (Rem.s (Rem.s (Rem.s (Rem.s (Rem.s (Rem.s Rem.z)))))) | apply Rems.s (Rem.s (Rem.s (Rem.s (Rem.s (Rem.s (Rem.s (Rem.s Rem.z))))))) | apply Rems.s (Rem.s (Rem.s (Rem.s (Rem.s (Rem.s (Rem.s (Rem.s (Rem.s Rem.z)))))))) | apply Rems.s (Rem.s (Rem.s (Rem.s (Rem.s (Rem.s (Rem.s (Rem.s (Rem.s (Rem.s Rem.z))))))))))) ?_
          refine ⟨?_, rfl⟩
          first | (exact congrArg (Value.int .i64) (idxOf_some (d := 0) (by omega) h16 hno).symm; done) | (exact congrArg (Value.int .i64) (idxOf_none (d := 0) (fun j hj => hno j (by omega))).symm; done)
      · first
        | (exfalso; omega)
        |
          refine R_nil ?_
          refine K_tn ?_
          refine K_cond_f rfl ?_
          refine K_skip ?_
          refine K_bn ?_
          refine K_tn ?_
          refine R_region ?_
          first | refine r_addN rfl rfl rfl rfl (i64K (by omega) (by omega)) ?_ | refine r_add rfl rfl rfl rfl (i64K (by omega) (by omega)) ?_
          refine r_move rfl rfl rfl ?_
          refine R_nil ?_
          refine K_tn ?_
          exact K_again (k + 1) (by exact ⟨by omega, fun j hj => by rcases Nat.lt_succ_iff_lt_or_eq.1 hj with h | h; exact hno j h; subst h; exact h16⟩) (by omega) (by repeat (first | exact trivial | refine ⟨rfl, ?_⟩)) (by repeat (first | exact .z | apply Rems.s Rem.z | apply Rems.s (Rem.s Rem.z) | apply Rems.s (Rem.s (Rem.s Rem.z)) | apply Rems.s (Rem.s (Rem.s (Rem.s Rem.z))) | apply Rems.s (Rem.s (Rem.s (Rem.s (Rem.s Rem.z)))) | apply Rems.s (Rem.s (Rem.s (Rem.s (Rem.s (Rem.s Rem.z))))) | apply Rems.s (Rem.s (Rem.s (Rem.s (Rem.s (Rem.s (Rem.s Rem.z)))))) | apply Rems.s (Rem.s (Rem.s (Rem.s (Rem.s (Rem.s (Rem.s (Rem.s Rem.z))))))) | apply Rems.s (Rem.s (Rem.s (Rem.s (Rem.s (Rem.s (Rem.s (Rem.s (Rem.s Rem.z)))))))) | apply Rems.s (Rem.s (Rem.s (Rem.s (Rem.s (Rem.s (Rem.s (Rem.s (Rem.s (Rem.s Rem.z)))))))))))
  · first
    | (exfalso; omega)
    |
      refine R_nil ?_
      refine K_tn ?_
      refine K_seq ?_
      refine K_cond_f rfl ?_
      refine K_exit ?_
      refine K_te ?_
      refine K_te ?_
      refine K_be ?_
      refine K_tn ?_
      refine K_seq ?_
      refine R_region ?_
      refine r_assign rfl rfl rfl ?_
      refine R_nil ?_
      refine K_tn ?_
      refine K_ret ?_
      refine K_done (H' := []) rfl rfl (.s (.tmp rfl) .z) (by repeat (first | exact .z | apply Rems.s Rem.z | apply Rems.s (Rem.s Rem.z) | apply Rems.s (Rem.s (Rem.s Rem.z)) | apply Rems.s (Rem.s (Rem.s (Rem.s Rem.z))) | apply Rems.s (Rem.s (Rem.s (Rem.s (Rem.s Rem.z)))) | apply Rems.s (Rem.s (Rem.s (Rem.s (Rem.s (Rem.s Rem.z))))) | apply Rems.s (Rem.s (Rem.s (Rem.s (Rem.s (Rem.s (Rem.s Rem.z)))))) | apply Rems.s (Rem.s (Rem.s (Rem.s (Rem.s (Rem.s (Rem.s (Rem.s Rem.z))))))) | apply Rems.s (Rem.s (Rem.s (Rem.s (Rem.s (Rem.s (Rem.s (Rem.s (Rem.s Rem.z)))))))) | apply Rems.s (Rem.s (Rem.s (Rem.s (Rem.s (Rem.s (Rem.s (Rem.s (Rem.s (Rem.s Rem.z))))))))))) ?_
      refine ⟨?_, rfl⟩
      first | (exact congrArg (Value.int .i64) (idxOf_some (d := 0) (by omega) h16 hno).symm; done) | (exact congrArg (Value.int .i64) (idxOf_none (d := 0) (fun j hj => hno j (by omega))).symm; done)

set_option maxRecDepth 20000 in
theorem containsFuncF (b off len cap : Nat) (l : List Value) (u : TypeId) (fr : Nat × Nat) (es : List Nat) (he : es.length = len) (hl : ∀ i, i < len → l[off + i * 1]? = some (.float .f32 (es.getD i 0))) (f : FuncId) (first cc : List Value) (X : Hp) (p : Nat → Bool) (hcb : callB Try.prog f = true) (hf : ∀ a, SpecV Try.prog f (first ++ [.float .f32 a] ++ cc) X (.bool (p a))) (hb : len ≤ 9223372036854775807) : SpecV Try.prog 137 [.slice (some ⟨b, off, none⟩) len cap, .func (.func f) first.toArray cc.toArray] ((b, .cells l.toArray u fr) :: X) (.bool (es.any p)) := by
  refine spec_of Try.func137 rfl Try.ntmps137 rfl (fun w0 => ?_)
  refine K_seq ?_
  refine R_region ?_
  refine r_assign rfl rfl rfl ?_
  refine R_nil ?_
  refine K_tn ?_
  refine K_seq ?_
  refine R_region ?_
  refine r_move rfl rfl rfl ?_
  refine r_move rfl rfl rfl ?_
  refine r_callV cb_151 rfl rfl rfl rfl rfl (indexFuncF _ _ _ _ _ _ _ _ he hl _ _ _ _ p hcb hf hb) (.s (.x .z) (insMono (insSelf _ _))) ?_
  refine v_cmp rfl rfl rfl rfl (fun _ _ => c_geq) ?_
  refine r_assign rfl rfl rfl ?_
  refine R_nil ?_
  refine K_tn ?_
  refine K_ret ?_
  refine K_done (H' := []) rfl rfl (.s (.tmp rfl) .z) (by repeat (first | exact .z | apply Rems.s Rem.z | apply Rems.s (Rem.s Rem.z) | apply Rems.s (Rem.s (Rem.s Rem.z)) | apply Rems.s (Rem.s (Rem.s (Rem.s Rem.z))) | apply Rems.s (Rem.s (Rem.s (Rem.s (Rem.s Rem.z)))) | apply Rems.s (Rem.s (Rem.s (Rem.s (Rem.s (Rem.s Rem.z))))) | apply Rems.s (Rem.s (Rem.s (Rem.s (Rem.s (Rem.s (Rem.s Rem.z)))))) | apply Rems.s (Rem.s (Rem.s (Rem.s (Rem.s (Rem.s (Rem.s (Rem.s Rem.z))))))) | apply Rems.s (Rem.s (Rem.s (Rem.s (Rem.s (Rem.s (Rem.s (Rem.s (Rem.s Rem.z)))))))) | apply Rems.s (Rem.s (Rem.s (Rem.s (Rem.s (Rem.s (Rem.s (Rem.s (Rem.s (Rem.s Rem.z))))))))))) ?_
  refine ⟨?_, rfl⟩
  exact congrArg Value.bool (idxOf_any p es)

set_option maxRecDepth 20000 in
theorem indexFuncI (b off len cap : Nat) (l : List Value) (u : TypeId) (fr : Nat × Nat) (es : List Int) (he : es.length = len) (hl : ∀ i, i < len → l[off + i * 1]? = some (.int .i64 (es.getD i 0))) (f : FuncId) (first cc : List Value) (X : Hp) (p : Int → Bool) (hcb : callB Try.prog f = true) (hf : ∀ a, SpecV Try.prog f (first ++ [.int .i64 a] ++ cc) X (.bool (p a))) (hb : len ≤ 9223372036854775807) : SpecV Try.prog 148 [.slice (some ⟨b, off, none⟩) len cap, .func (.func f) first.toArray cc.toArray] ((b, .cells l.toArray u fr) :: X) (.int .i64 (idxOf p es)) := by
  refine spec_of Try.func148 rfl Try.ntmps148 rfl (fun w0 => ?_)
  refine K_seq ?_
  refine R_region ?_
  refine r_assign rfl rfl rfl ?_
  refine R_nil ?_
  refine K_tn ?_
  refine K_seq ?_
  refine K_seq ?_
  refine R_region ?_
  refine r_move rfl rfl rfl ?_
  refine r_lenS sl_30 rfl rfl rfl ?_
  refine r_move rfl rfl rfl ?_
  refine R_nil ?_
  refine K_tn ?_
  refine K_block ?_
  refine K_loop (fun (k : Nat) => k ≤ len ∧ ∀ j, j < k → p (es.getD j 0) = false) (fun k => [(0, .slice (some ⟨b, off, none⟩) len cap), (1, .func (.func f) first.toArray cc.toArray), (7, .int .i64 (len : Int)), (8, .int .i64 (k : Int))]) (fun _ => []) (fun k => len - k) 0 (by exact ⟨Nat.zero_le _, fun j hj => absurd hj (Nat.not_lt_zero _)⟩) (by repeat (first | exact trivial | refine ⟨rfl, ?_⟩)) (by repeat (first | exact .z | apply Rems.s Rem.z | apply Rems.s (Rem.s Rem.z) | apply Rems.s (Rem.s (Rem.s Rem.z)) | apply Rems.s (Rem.s (Rem.s (Rem.s Rem.z))) | apply Rems.s (Rem.s (Rem.s (Rem.s (Rem.s Rem.z)))) | apply Rems.s (Rem.s (Rem.s (Rem.s (Rem.s (Rem.s Rem.z))))) | apply Rems.s (Rem.s (Rem.s (Rem.s (Rem.s (Rem.s (Rem.s Rem.z)))))) | apply Rems.s (Rem.s (Rem.s (Rem.s (Rem.s (Rem.s (Rem.s (Rem.s Rem.z))))))) | apply Rems.s (Rem.s (Rem.s (Rem.s (Rem.s (Rem.s (Rem.s (Rem.s (Rem.s Rem.z)))))))) | apply Rems.s (Rem.s (Rem.s (Rem.s (Rem.s (Rem.s (Rem.s (Rem.s (Rem.s (Rem.s Rem.z))))))))))) (fun k hp => ?_)
  obtain ⟨hk, hno⟩ := hp
  refine K_seq ?_
  refine R_region ?_
  refine s_lss rfl rfl rfl rfl (fun h9 => ?_) (fun h9 => ?_)
  · first
    | (exfalso; omega)
    |
      refine R_nil ?_
      refine K_tn ?_
      refine K_seq ?_
      refine K_cond_t rfl ?_
      refine K_skip ?_
      refine K_tn ?_
      refine K_seq ?_
      refine K_block ?_
      refine K_seq ?_
      refine R_region ?_
      refine r_move rfl rfl rfl ?_
      refine r_assign rfl rfl rfl ?_
      refine R_nil ?_
      refine K_tn ?_
      refine K_seq ?_
      refine R_region ?_
      refine r_move rfl rfl rfl ?_
      refine r_move rfl rfl rfl ?_
      refine r_move rfl rfl rfl ?_
      refine r_indexS sl_30 sz_2 rfl rfl rfl rfl (by omega) ?_
      refine r_load ag_2 rfl rfl rfl (by first | exact .h .z | exact .h (.s .z) | exact .h (.s (.s .z)) | exact .h (.s (.s (.s .z))) | exact .h (.s (.s (.s (.s .z)))) | exact .h (.s (.s (.s (.s (.s .z))))) | exact .h (.s (.s (.s (.s (.s (.s .z)))))) | exact .h (.s (.s (.s (.s (.s (.s (.s .z))))))) | exact .h (.s (.s (.s (.s (.s (.s (.s (.s .z)))))))) | exact .x .z | exact .x (.s .z) | exact .x (.s (.s .z)) | exact .x (.s (.s (.s .z))) | exact .x (.s (.s (.s (.s .z)))) | exact .x (.s (.s (.s (.s (.s .z))))) | exact .x (.s (.s (.s (.s (.s (.s .z))))))) (by first | rfl | exact hl _ (by omega)) ?_
      refine s_callV hcb rfl rfl rfl rfl rfl (hf _) (insMono (insSelf _ _)) (fun h16 => ?_) (fun h16 => ?_)
      · first
        | (exfalso; omega)
        |
          refine R_nil ?_
          refine K_tn ?_
          refine K_cond_t rfl ?_
          refine K_seq ?_
          refine R_region ?_
          refine r_move rfl rfl rfl ?_
          refine r_assign rfl rfl rfl ?_
          refine R_nil ?_
          refine K_tn ?_
          refine K_ret ?_
          refine K_br ?_
          refine K_tr ?_
          refine K_tr ?_
          refine K_br ?_
          refine K_tr ?_
          refine K_done (H' := []) rfl rfl (.s (.tmp rfl) .z) (by repeat (first | exact .z | apply Rems.s Rem.z | apply Rems.s (Rem.s Rem.z) | apply Rems.s (Rem.s (Rem.s Rem.z)) | apply Rems.s (Rem.s (Rem.s (Rem.s Rem.z))) | apply Rems.s (Rem.s (Rem.s (Rem.s (Rem.s Rem.z)))) | apply Rems.s (Rem.s (Rem.s (Rem.s (Rem.s (Rem.s Rem.z))))) | apply Rems.s (Rem.s (Rem.s (Rem.s (Rem.s (Rem.s (Rem.s Rem.z)))))) | apply Rems.s (Rem.s (Rem.s (Rem.s (Rem.s (Rem.s (Rem.s (Rem.s Rem.z))))))) | apply Rems.s (Rem.s (Rem.s (Rem.s (Rem.s (Rem.s (Rem.s (Rem.s (Rem.s Rem.z)))))))) | apply Rems.s (Rem.s (Rem.s (Rem.s (Rem.s (Rem.s (Rem.s (Rem.s (Rem.s (Rem.s Rem.z))))))))))) ?_
          refine ⟨?_, rfl⟩
          first | (exact congrArg (Value.int .i64) (idxOf_some (d := 0) (by omega) h16 hno).symm; done) | (exact congrArg (Value.int .i64) (idxOf_none (d := 0) (fun j hj => hno j (by omega))).symm; done)
      · first
        | (exfalso; omega)
        |
          refine R_nil ?_
          refine K_tn ?_
          refine K_cond_f rfl ?_
          refine K_skip ?_
          refine K_bn ?_
          refine K_tn ?_
          refine R_region ?_
          first | refine r_addN rfl rfl rfl rfl (i64K (by omega) (by omega)) ?_ | refine r_add rfl rfl rfl rfl (i64K (by omega) (by omega)) ?_
          refine r_move rfl rfl rfl ?_
          refine R_nil ?_
          refine K_tn ?_
          exact K_again (k + 1) (by exact ⟨by omega, fun j hj => by rcases Nat.lt_succ_iff_lt_or_eq.1 hj with h | h; exact hno j h; subst h; exact h16⟩) (by omega) (by repeat (first | exact trivial | refine ⟨rfl, ?_⟩)) (by repeat (first | exact .z | apply Rems.s Rem.z | apply Rems.s (Rem.s Rem.z) | apply Rems.s (Rem.s (Rem.s Rem.z)) | apply Rems.s (Rem.s (Rem.s (Rem.s Rem.z))) | apply Rems.s (Rem.s (Rem.s (Rem.s (Rem.s Rem.z)))) | apply Rems.s (Rem.s (Rem.s (Rem.s (Rem.s (Rem.s Rem.z))))) | apply Rems.s (Rem.s (Rem.s (Rem.s (Rem.s (Rem.s (Rem.s Rem.z)))))) | apply Rems.s (Rem.s (Rem.s (Rem.s (Rem.s (Rem.s (Rem.s (Rem.s Rem.z))))))) | apply Rems.s (Rem.s (Rem.s (Rem.s (Rem.s (Rem.s (Rem.s (Rem.s (Rem.s Rem.z)))))))) | apply Rems.s (Rem.s (Rem.s (Rem.s (Rem.s (Rem.s (Rem.s (Rem.s (Rem.s (Rem.s Rem.z)))))))))))
  · first
    | (exfalso; omega)
    |
      refine R_nil ?_
      refine K_tn ?_
      refine K_seq ?_
      refine K_cond_f rfl ?_
      refine K_exit ?_
      refine K_te ?_
      refine K_te ?_
      refine K_be ?_
      refine K_tn ?_
      refine K_seq ?_
      refine R_region ?_
      refine r_assign rfl rfl rfl ?_
      refine R_nil ?_
      refine K_tn ?_
      refine K_ret ?_
      refine K_done (H' := []) rfl rfl (.s (.tmp rfl) .z) (by repeat (first | exact .z | apply Rems.s Rem.z | apply Rems.s (Rem.s Rem.z) | apply Rems.s (Rem.s (Rem.s Rem.z)) | apply Rems.s (Rem.s (Rem.s (Rem.s Rem.z))) | apply Rems.s (Rem.s (Rem.s (Rem.s (Rem.s Rem.z)))) | apply Rems.s (Rem.s (Rem.s (Rem.s (Rem.s (Rem.s Rem.z))))) | apply Rems.s (Rem.s (Rem.s (Rem.s (Rem.s (Rem.s (Rem.s Rem.z)))))) | apply Rems.s (Rem.s (Rem.s (Rem.s (Rem.s (Rem.s (Rem.s (Rem.s Rem.z))))))) | apply Rems.s (Rem.s (Rem.s (Rem.s (Rem.s (Rem.s (Rem.s (Rem.s (Rem.s Rem.z)))))))) | apply Rems.s (Rem.s (Rem.s (Rem.s (Rem.s (Rem.s (Rem.s (Rem.s (Rem.s (Rem.s Rem.z))))))))))) ?_
      refine ⟨?_, rfl⟩
      first | (exact congrArg (Value.int .i64) (idxOf_some (d := 0) (by omega) h16 hno).symm; done) | (exact congrArg (Value.int .i64) (idxOf_none (d := 0) (fun j hj => hno j (by omega))).symm; done)

set_option maxRecDepth 20000 in
theorem containsFuncI (b off len cap : Nat) (l : List Value) (u : TypeId) (fr : Nat × Nat) (es : List Int) (he : es.length = len) (hl : ∀ i, i < len → l[off + i * 1]? = some (.int .i64 (es.getD i 0))) (f : FuncId) (first cc : List Value) (X : Hp) (p : Int → Bool) (hcb : callB Try.prog f = true) (hf : ∀ a, SpecV Try.prog f (first ++ [.int .i64 a] ++ cc) X (.bool (p a))) (hb : len ≤ 9223372036854775807) : SpecV Try.prog 128 [.slice (some ⟨b, off, none⟩) len cap, .func (.func f) first.toArray cc.toArray] ((b, .cells l.toArray u fr) :: X) (.bool (es.any p)) := by
  refine spec_of Try.func128 rfl Try.ntmps128 rfl (fun w0 => ?_)
  refine K_seq ?_
  refine R_region ?_
  refine r_assign rfl rfl rfl ?_
  refine R_nil ?_
  refine K_tn ?_
  refine K_seq ?_
  refine R_region ?_
  refine r_move rfl rfl rfl ?_
  refine r_move rfl rfl rfl ?_
  refine r_callV cb_148 rfl rfl rfl rfl rfl (indexFuncI _ _ _ _ _ _ _ _ he hl _ _ _ _ p hcb hf hb) (.s (.x .z) (insMono (insSelf _ _))) ?_
  refine v_cmp rfl rfl rfl rfl (fun _ _ => c_geq) ?_
  refine r_assign rfl rfl rfl ?_
  refine R_nil ?_
  refine K_tn ?_
  refine K_ret ?_
  refine K_done (H' := []) rfl rfl (.s (.tmp rfl) .z) (by repeat (first | exact .z | apply Rems.s Rem.z | apply Rems.s (Rem.s Rem.z) | apply Rems.s (Rem.s (Rem.s Rem.z)) | apply Rems.s (Rem.s (Rem.s (Rem.s Rem.z))) | apply Rems.s (Rem.s (Rem.s (Rem.s (Rem.s Rem.z)))) | apply Rems.s (Rem.s (Rem.s (Rem.s (Rem.s (Rem.s Rem.z))))) | apply Rems.s (Rem.s (Rem.s (Rem.s (Rem.s (Rem.s (Rem.s Rem.z)))))) | apply Rems.s (Rem.s (Rem.s (Rem.s (Rem.s (Rem.s (Rem.s (Rem.s Rem.z))))))) | apply Rems.s (Rem.s (Rem.s (Rem.s (Rem.s (Rem.s (Rem.s (Rem.s (Rem.s Rem.z)))))))) | apply Rems.s (Rem.s (Rem.s (Rem.s (Rem.s (Rem.s (Rem.s (Rem.s (Rem.s (Rem.s Rem.z))))))))))) ?_
  refine ⟨?_, rfl⟩
  exact congrArg Value.bool (idxOf_any p es)

set_option maxRecDepth 20000 in
theorem areParts1 (a : Nat) : SpecV Try.prog 162 [.float .f32 a] [] (.bool (!isPart a)) := by
  refine spec_of Try.func162 rfl Try.ntmps162 rfl (fun w0 => ?_)
  refine K_seq ?_
  refine R_region ?_
  refine r_assign rfl rfl rfl ?_
  refine R_nil ?_
  refine K_tn ?_
  refine K_seq ?_
  refine R_region ?_
  refine r_move rfl rfl rfl ?_
  refine r_callV cb_139 rfl rfl rfl rfl rfl (IsPart _) (by repeat (first | exact .z | refine .s (.h .z) ?_ | refine .s (.h (.s .z)) ?_ | refine .s (.h (.s (.s .z))) ?_ | refine .s (.h (.s (.s (.s .z)))) ?_ | refine .s (.h (.s (.s (.s (.s .z))))) ?_ | refine .s (.h (.s (.s (.s (.s (.s .z)))))) ?_ | refine .s (.h (.s (.s (.s (.s (.s (.s .z))))))) ?_ | refine .s (.h (.s (.s (.s (.s (.s (.s (.s .z)))))))) ?_ | refine .s (.h (.s (.s (.s (.s (.s (.s (.s (.s .z))))))))) ?_ | refine .s (.x .z) ?_ | refine .s (.x (.s .z)) ?_ | refine .s (.x (.s (.s .z))) ?_ | refine .s (.x (.s (.s (.s .z)))) ?_ | refine .s (.x (.s (.s (.s (.s .z))))) ?_ | refine .s (.x (.s (.s (.s (.s (.s .z)))))) ?_ | refine .s (.x (.s (.s (.s (.s (.s (.s .z))))))) ?_)) ?_
  refine r_not rfl rfl rfl ?_
  refine r_assign rfl rfl rfl ?_
  refine R_nil ?_
  refine K_tn ?_
  refine K_ret ?_
  refine K_done (H' := []) rfl rfl (.s (.tmp rfl) .z) (by repeat (first | exact .z | apply Rems.s Rem.z | apply Rems.s (Rem.s Rem.z) | apply Rems.s (Rem.s (Rem.s Rem.z)) | apply Rems.s (Rem.s (Rem.s (Rem.s Rem.z))) | apply Rems.s (Rem.s (Rem.s (Rem.s (Rem.s Rem.z)))) | apply Rems.s (Rem.s (Rem.s (Rem.s (Rem.s (Rem.s Rem.z))))) | apply Rems.s (Rem.s (Rem.s (Rem.s (Rem.s (Rem.s (Rem.s Rem.z)))))) | apply Rems.s (Rem.s (Rem.s (Rem.s (Rem.s (Rem.s (Rem.s (Rem.s Rem.z))))))) | apply Rems.s (Rem.s (Rem.s (Rem.s (Rem.s (Rem.s (Rem.s (Rem.s (Rem.s Rem.z)))))))) | apply Rems.s (Rem.s (Rem.s (Rem.s (Rem.s (Rem.s (Rem.s (Rem.s (Rem.s (Rem.s Rem.z))))))))))) ?_
  refine ⟨?_, rfl⟩
  simp [packV, *]

set_option maxRecDepth 20000 in
theorem areParts (b off len cap : Nat) (l : List Value) (u : TypeId) (fr : Nat × Nat) (es : List Nat) (he : es.length = len) (hl : ∀ i, i < len → l[off + i * 1]? = some (.float .f32 (es.getD i 0))) (hb : len ≤ 9223372036854775807) : SpecV Try.prog 147 [.slice (some ⟨b, off, none⟩) len cap] [(b, .cells l.toArray u fr)] (.bool (es.all isPart)) := by
  refine spec_of Try.func147 rfl Try.ntmps147 rfl (fun w0 => ?_)
  refine K_seq ?_
  refine R_region ?_
  refine r_assign rfl rfl rfl ?_
  refine R_nil ?_
  refine K_tn ?_
  refine K_seq ?_
  refine R_region ?_
  refine r_move rfl rfl rfl ?_
  refine r_callV cb_137 rfl rfl rfl rfl rfl (containsFuncF _ _ _ _ _ _ _ _ he hl 162 [] [] [] (fun a => !isPart a) cb_162 areParts1 hb) (by repeat (first | exact .z | refine .s (.h .z) ?_ | refine .s (.h (.s .z)) ?_ | refine .s (.h (.s (.s .z))) ?_ | refine .s (.h (.s (.s (.s .z)))) ?_ | refine .s (.h (.s (.s (.s (.s .z))))) ?_ | refine .s (.h (.s (.s (.s (.s (.s .z)))))) ?_ | refine .s (.h (.s (.s (.s (.s (.s (.s .z))))))) ?_ | refine .s (.h (.s (.s (.s (.s (.s (.s (.s .z)))))))) ?_ | refine .s (.h (.s (.s (.s (.s (.s (.s (.s (.s .z))))))))) ?_ | refine .s (.x .z) ?_ | refine .s (.x (.s .z)) ?_ | refine .s (.x (.s (.s .z))) ?_ | refine .s (.x (.s (.s (.s .z)))) ?_ | refine .s (.x (.s (.s (.s (.s .z))))) ?_ | refine .s (.x (.s (.s (.s (.s (.s .z)))))) ?_ | refine .s (.x (.s (.s (.s (.s (.s (.s .z))))))) ?_)) ?_
  refine r_not rfl rfl rfl ?_
  refine r_assign rfl rfl rfl ?_
  refine R_nil ?_
  refine K_tn ?_
  refine K_ret ?_
  refine K_done (H' := []) rfl rfl (.s (.tmp rfl) .z) (by repeat (first | exact .z | apply Rems.s Rem.z | apply Rems.s (Rem.s Rem.z) | apply Rems.s (Rem.s (Rem.s Rem.z)) | apply Rems.s (Rem.s (Rem.s (Rem.s Rem.z))) | apply Rems.s (Rem.s (Rem.s (Rem.s (Rem.s Rem.z)))) | apply Rems.s (Rem.s (Rem.s (Rem.s (Rem.s (Rem.s Rem.z))))) | apply Rems.s (Rem.s (Rem.s (Rem.s (Rem.s (Rem.s (Rem.s Rem.z)))))) | apply Rems.s (Rem.s (Rem.s (Rem.s (Rem.s (Rem.s (Rem.s (Rem.s Rem.z))))))) | apply Rems.s (Rem.s (Rem.s (Rem.s (Rem.s (Rem.s (Rem.s (Rem.s (Rem.s Rem.z)))))))) | apply Rems.s (Rem.s (Rem.s (Rem.s (Rem.s (Rem.s (Rem.s (Rem.s (Rem.s (Rem.s Rem.z))))))))))) ?_
  refine ⟨?_, rfl⟩
  exact congrArg Value.bool (any_not isPart es)

theorem sameFloat_W (p a b : Nat) (ha : Wide p a) (hb : Wide p b) : SpecV Try.prog 41 [.float .f64 a, .float .f64 b] [] (.bool true) := by
  cases h : nan p with
  | true => exact sameFloat_nan a b (ha.1.trans h) (hb.1.trans h)
  | false =>
    rw [ha.eq hb h]
    exact sameFloat_num b (hb.1.trans h)

set_option maxRecDepth 20000 in
theorem toInt64S (b off len cap : Nat) (l : List Value) (u : TypeId) (fr : Nat × Nat) (es : List Int) (he : es.length = len) (hl : ∀ i, i < len → l[off + i * 1]? = some (.int .i64 (es.getD i 0))) (hb : len ≤ 1048576) : Go.Sl.Spec Try.prog 24 [.slice (some ⟨b, off, none⟩) len cap] [(b, .cells l.toArray u fr)] [] (RowI es len) := by
  refine spec_of Try.func24 rfl Try.ntmps24 rfl (fun w0 => ?_)
  refine K_seq ?_
  refine R_region ?_
  refine r_assign rfl rfl rfl ?_
  refine R_nil ?_
  refine K_tn ?_
  refine K_seq ?_
  refine R_region ?_
  refine r_move rfl rfl rfl ?_
  refine r_lenS sl_30 rfl rfl rfl ?_
  refine r_makeSlice sl_30 sz_2 zr_2 rfl by_2 rfl rfl rfl rfl ⟨by omega, by omega⟩ (fun b7 => ?_)
  rw [zI es]
  refine r_assign rfl rfl rfl ?_
  refine R_nil ?_
  refine K_tn ?_
  refine K_seq ?_
  refine K_seq ?_
  refine R_region ?_
  refine r_assign rfl rfl rfl ?_
  refine R_nil ?_
  refine K_tn ?_
  refine K_block ?_
  refine K_loop (fun (k : Nat) => k ≤ len) (fun k => [(0, .slice (some ⟨b, off, none⟩) len cap), (3, .slice (some ⟨b7, 0, none⟩) len len), (4, .int .i64 (k : Int))]) (fun k => [(b7, .cells (il (cpG 0 es k len)).toArray 2 (0, 0))]) (fun k => len - k) 0 (by omega) (by repeat (first | exact trivial | refine ⟨rfl, ?_⟩)) (by repeat (first | exact .z | apply Rems.s Rem.z | apply Rems.s (Rem.s Rem.z) | apply Rems.s (Rem.s (Rem.s Rem.z)) | apply Rems.s (Rem.s (Rem.s (Rem.s Rem.z))) | apply Rems.s (Rem.s (Rem.s (Rem.s (Rem.s Rem.z)))) | apply Rems.s (Rem.s (Rem.s (Rem.s (Rem.s (Rem.s Rem.z))))) | apply Rems.s (Rem.s (Rem.s (Rem.s (Rem.s (Rem.s (Rem.s Rem.z)))))) | apply Rems.s (Rem.s (Rem.s (Rem.s (Rem.s (Rem.s (Rem.s (Rem.s Rem.z))))))) | apply Rems.s (Rem.s (Rem.s (Rem.s (Rem.s (Rem.s (Rem.s (Rem.s (Rem.s Rem.z)))))))) | apply Rems.s (Rem.s (Rem.s (Rem.s (Rem.s (Rem.s (Rem.s (Rem.s (Rem.s (Rem.s Rem.z))))))))))) (fun k hp => ?_)
  refine K_seq ?_
  refine K_seq ?_
  refine R_region ?_
  refine r_move rfl rfl rfl ?_
  refine r_move rfl rfl rfl ?_
  refine r_lenS sl_30 rfl rfl rfl ?_
  refine s_lss rfl rfl rfl rfl (fun h11 => ?_) (fun h11 => ?_)
  · first
    | (exfalso; omega)
    |
      refine R_nil ?_
      refine K_tn ?_
      refine K_cond_t rfl ?_
      refine K_skip ?_
      refine K_tn ?_
      refine K_seq ?_
      refine K_block ?_
      refine R_region ?_
      refine r_move rfl rfl rfl ?_
      refine r_move rfl rfl rfl ?_
      refine r_move rfl rfl rfl ?_
      refine r_move rfl rfl rfl ?_
      refine r_indexS sl_30 sz_2 rfl rfl rfl rfl (by omega) ?_
      refine r_load ag_2 rfl rfl rfl (by first | exact .h .z | exact .h (.s .z) | exact .h (.s (.s .z)) | exact .h (.s (.s (.s .z))) | exact .h (.s (.s (.s (.s .z)))) | exact .h (.s (.s (.s (.s (.s .z))))) | exact .h (.s (.s (.s (.s (.s (.s .z)))))) | exact .h (.s (.s (.s (.s (.s (.s (.s .z))))))) | exact .h (.s (.s (.s (.s (.s (.s (.s (.s .z)))))))) | exact .x .z | exact .x (.s .z) | exact .x (.s (.s .z)) | exact .x (.s (.s (.s .z))) | exact .x (.s (.s (.s (.s .z)))) | exact .x (.s (.s (.s (.s (.s .z))))) | exact .x (.s (.s (.s (.s (.s (.s .z))))))) (by first | rfl | exact hl _ (by omega)) ?_
      refine r_indexS sl_30 sz_2 rfl rfl rfl rfl (by omega) ?_
      refine r_store sz_2 rfl rfl rfl rfl (by first | exact .z | exact (.s .z) | exact (.s (.s .z)) | exact (.s (.s (.s .z))) | exact (.s (.s (.s (.s .z)))) | exact (.s (.s (.s (.s (.s .z))))) | exact (.s (.s (.s (.s (.s (.s .z)))))) | exact (.s (.s (.s (.s (.s (.s (.s .z))))))) | exact (.s (.s (.s (.s (.s (.s (.s (.s .z)))))))) | exact (.s (.s (.s (.s (.s (.s (.s (.s (.s .z)))))))))) (by first | rfl | exact bltI0 (by rw [cpG_len (by omega) he]; omega)) ?_
      refine R_nil ?_
      refine K_bn ?_
      refine K_tn ?_
      refine R_region ?_
      refine r_move rfl rfl rfl ?_
      first | refine r_addN rfl rfl rfl rfl (i64K (by omega) (by omega)) ?_ | refine r_add rfl rfl rfl rfl (i64K (by omega) (by omega)) ?_
      refine r_assign rfl rfl rfl ?_
      refine R_nil ?_
      refine K_tn ?_
      rw [setI0, cpG_set (by omega) he]
      exact K_again (k + 1) (by omega) (by omega) (by repeat (first | exact trivial | refine ⟨rfl, ?_⟩)) (by repeat (first | exact .z | apply Rems.s Rem.z | apply Rems.s (Rem.s Rem.z) | apply Rems.s (Rem.s (Rem.s Rem.z)) | apply Rems.s (Rem.s (Rem.s (Rem.s Rem.z))) | apply Rems.s (Rem.s (Rem.s (Rem.s (Rem.s Rem.z)))) | apply Rems.s (Rem.s (Rem.s (Rem.s (Rem.s (Rem.s Rem.z))))) | apply Rems.s (Rem.s (Rem.s (Rem.s (Rem.s (Rem.s (Rem.s Rem.z)))))) | apply Rems.s (Rem.s (Rem.s (Rem.s (Rem.s (Rem.s (Rem.s (Rem.s Rem.z))))))) | apply Rems.s (Rem.s (Rem.s (Rem.s (Rem.s (Rem.s (Rem.s (Rem.s (Rem.s Rem.z)))))))) | apply Rems.s (Rem.s (Rem.s (Rem.s (Rem.s (Rem.s (Rem.s (Rem.s (Rem.s (Rem.s Rem.z)))))))))))
  · first
    | (exfalso; omega)
    |
      refine R_nil ?_
      refine K_tn ?_
      refine K_cond_f rfl ?_
      refine K_exit ?_
      refine K_te ?_
      refine K_te ?_
      refine K_be ?_
      refine K_tn ?_
      refine K_seq ?_
      refine R_region ?_
      have hk : k = len := by omega
      subst hk
      refine r_move rfl rfl rfl ?_
      refine r_assign rfl rfl rfl ?_
      refine R_nil ?_
      refine K_tn ?_
      refine K_ret ?_
      refine K_done (H' := [(b7, .cells (il (cpG 0 es k k)).toArray 2 (0, 0))]) rfl rfl (.s (.tmp rfl) .z) (by repeat (first | exact .z | apply Rems.s Rem.z | apply Rems.s (Rem.s Rem.z) | apply Rems.s (Rem.s (Rem.s Rem.z)) | apply Rems.s (Rem.s (Rem.s (Rem.s Rem.z))) | apply Rems.s (Rem.s (Rem.s (Rem.s (Rem.s Rem.z)))) | apply Rems.s (Rem.s (Rem.s (Rem.s (Rem.s (Rem.s Rem.z))))) | apply Rems.s (Rem.s (Rem.s (Rem.s (Rem.s (Rem.s (Rem.s Rem.z)))))) | apply Rems.s (Rem.s (Rem.s (Rem.s (Rem.s (Rem.s (Rem.s (Rem.s Rem.z))))))) | apply Rems.s (Rem.s (Rem.s (Rem.s (Rem.s (Rem.s (Rem.s (Rem.s (Rem.s Rem.z)))))))) | apply Rems.s (Rem.s (Rem.s (Rem.s (Rem.s (Rem.s (Rem.s (Rem.s (Rem.s (Rem.s Rem.z))))))))))) ?_
      exact ⟨b7, _, [], _, rfl, rfl, he, by rw [cpG_full he, List.append_nil]⟩

set_option maxRecDepth 20000 in
theorem toInt64S_nil (a : Option Addr) (cap : Nat) : Go.Sl.Spec Try.prog 24 [.slice a 0 cap] [] [] (RowI [] 0) := by
  refine spec_of Try.func24 rfl Try.ntmps24 rfl (fun w0 => ?_)
  refine K_seq ?_
  refine R_region ?_
  refine r_assign rfl rfl rfl ?_
  refine R_nil ?_
  refine K_tn ?_
  refine K_seq ?_
  refine R_region ?_
  refine r_move rfl rfl rfl ?_
  refine r_lenS sl_30 rfl rfl rfl ?_
  refine r_makeSlice sl_30 sz_2 zr_2 rfl by_2 rfl rfl rfl rfl ⟨by omega, by omega⟩ (fun b7 => ?_)
  rw [zI ([] : List Int)]
  refine r_assign rfl rfl rfl ?_
  refine R_nil ?_
  refine K_tn ?_
  refine K_seq ?_
  refine K_seq ?_
  refine R_region ?_
  refine r_assign rfl rfl rfl ?_
  refine R_nil ?_
  refine K_tn ?_
  refine K_block ?_
  refine K_loop (fun (k : Nat) => k ≤ 0) (fun k => [(0, .slice a 0 cap), (3, .slice (some ⟨b7, 0, none⟩) 0 0), (4, .int .i64 (k : Int))]) (fun k => [(b7, .cells (il (cpG 0 ([] : List Int) k 0)).toArray 2 (0, 0))]) (fun k => 0 - k) 0 (by omega) (by repeat (first | exact trivial | refine ⟨rfl, ?_⟩)) (by repeat (first | exact .z | apply Rems.s Rem.z | apply Rems.s (Rem.s Rem.z) | apply Rems.s (Rem.s (Rem.s Rem.z)) | apply Rems.s (Rem.s (Rem.s (Rem.s Rem.z))) | apply Rems.s (Rem.s (Rem.s (Rem.s (Rem.s Rem.z)))) | apply Rems.s (Rem.s (Rem.s (Rem.s (Rem.s (Rem.s Rem.z))))) | apply Rems.s (Rem.s (Rem.s (Rem.s (Rem.s (Rem.s (Rem.s Rem.z)))))) | apply Rems.s (Rem.s (Rem.s (Rem.s (Rem.s (Rem.s (Rem.s (Rem.s Rem.z))))))) | apply Rems.s (Rem.s (Rem.s (Rem.s (Rem.s (Rem.s (Rem.s (Rem.s (Rem.s Rem.z)))))))) | apply Rems.s (Rem.s (Rem.s (Rem.s (Rem.s (Rem.s (Rem.s (Rem.s (Rem.s (Rem.s Rem.z))))))))))) (fun k hp => ?_)
  refine K_seq ?_
  refine K_seq ?_
  refine R_region ?_
  refine r_move rfl rfl rfl ?_
  refine r_move rfl rfl rfl ?_
  refine r_lenS sl_30 rfl rfl rfl ?_
  refine s_lss rfl rfl rfl rfl (fun h11 => ?_) (fun h11 => ?_)
  · first
    | (exfalso; omega)
    |
      refine R_nil ?_
      refine K_tn ?_
      refine K_cond_t rfl ?_
      refine K_skip ?_
      refine K_tn ?_
      refine K_seq ?_
      refine K_block ?_
      refine R_region ?_
      refine r_move rfl rfl rfl ?_
      refine r_move rfl rfl rfl ?_
      refine r_move rfl rfl rfl ?_
      refine r_move rfl rfl rfl ?_
      refine r_indexS sl_30 sz_2 rfl rfl rfl rfl (by omega) ?_
      refine r_load ag_2 rfl rfl rfl (by first | exact .h .z | exact .h (.s .z) | exact .h (.s (.s .z)) | exact .h (.s (.s (.s .z))) | exact .h (.s (.s (.s (.s .z)))) | exact .h (.s (.s (.s (.s (.s .z))))) | exact .h (.s (.s (.s (.s (.s (.s .z)))))) | exact .h (.s (.s (.s (.s (.s (.s (.s .z))))))) | exact .h (.s (.s (.s (.s (.s (.s (.s (.s .z)))))))) | exact .x .z | exact .x (.s .z) | exact .x (.s (.s .z)) | exact .x (.s (.s (.s .z))) | exact .x (.s (.s (.s (.s .z)))) | exact .x (.s (.s (.s (.s (.s .z))))) | exact .x (.s (.s (.s (.s (.s (.s .z))))))) (by first | rfl | exact hl _ (by omega)) ?_
      refine r_indexS sl_30 sz_2 rfl rfl rfl rfl (by omega) ?_
      refine r_store sz_2 rfl rfl rfl rfl (by first | exact .z | exact (.s .z) | exact (.s (.s .z)) | exact (.s (.s (.s .z))) | exact (.s (.s (.s (.s .z)))) | exact (.s (.s (.s (.s (.s .z))))) | exact (.s (.s (.s (.s (.s (.s .z)))))) | exact (.s (.s (.s (.s (.s (.s (.s .z))))))) | exact (.s (.s (.s (.s (.s (.s (.s (.s .z)))))))) | exact (.s (.s (.s (.s (.s (.s (.s (.s (.s .z)))))))))) (by first | rfl | exact bltI0 (by rw [cpG_len (by omega) he]; omega)) ?_
      refine R_nil ?_
      refine K_bn ?_
      refine K_tn ?_
      refine R_region ?_
      refine r_move rfl rfl rfl ?_
      first | refine r_addN rfl rfl rfl rfl (i64K (by omega) (by omega)) ?_ | refine r_add rfl rfl rfl rfl (i64K (by omega) (by omega)) ?_
      refine r_assign rfl rfl rfl ?_
      refine R_nil ?_
      refine K_tn ?_
      exact K_again (k + 1) (by omega) (by omega) (by repeat (first | exact trivial | refine ⟨rfl, ?_⟩)) (by repeat (first | exact .z | apply Rems.s Rem.z | apply Rems.s (Rem.s Rem.z) | apply Rems.s (Rem.s (Rem.s Rem.z)) | apply Rems.s (Rem.s (Rem.s (Rem.s Rem.z))) | apply Rems.s (Rem.s (Rem.s (Rem.s (Rem.s Rem.z)))) | apply Rems.s (Rem.s (Rem.s (Rem.s (Rem.s (Rem.s Rem.z))))) | apply Rems.s (Rem.s (Rem.s (Rem.s (Rem.s (Rem.s (Rem.s Rem.z)))))) | apply Rems.s (Rem.s (Rem.s (Rem.s (Rem.s (Rem.s (Rem.s (Rem.s Rem.z))))))) | apply Rems.s (Rem.s (Rem.s (Rem.s (Rem.s (Rem.s (Rem.s (Rem.s (Rem.s Rem.z)))))))) | apply Rems.s (Rem.s (Rem.s (Rem.s (Rem.s (Rem.s (Rem.s (Rem.s (Rem.s (Rem.s Rem.z)))))))))))
  · first
    | (exfalso; omega)
    |
      refine R_nil ?_
      refine K_tn ?_
      refine K_cond_f rfl ?_
      refine K_exit ?_
      refine K_te ?_
      refine K_te ?_
      refine K_be ?_
      refine K_tn ?_
      refine K_seq ?_
      refine R_region ?_
      have hk : k = 0 := by omega
      subst hk
      refine r_move rfl rfl rfl ?_
      refine r_assign rfl rfl rfl ?_
      refine R_nil ?_
      refine K_tn ?_
      refine K_ret ?_
      refine K_done (H' := [(b7, .cells (il (cpG 0 ([] : List Int) 0 0)).toArray 2 (0, 0))]) rfl rfl (.s (.tmp rfl) .z) (by repeat (first | exact .z | apply Rems.s Rem.z | apply Rems.s (Rem.s Rem.z) | apply Rems.s (Rem.s (Rem.s Rem.z)) | apply Rems.s (Rem.s (Rem.s (Rem.s Rem.z))) | apply Rems.s (Rem.s (Rem.s (Rem.s (Rem.s Rem.z)))) | apply Rems.s (Rem.s (Rem.s (Rem.s (Rem.s (Rem.s Rem.z))))) | apply Rems.s (Rem.s (Rem.s (Rem.s (Rem.s (Rem.s (Rem.s Rem.z)))))) | apply Rems.s (Rem.s (Rem.s (Rem.s (Rem.s (Rem.s (Rem.s (Rem.s Rem.z))))))) | apply Rems.s (Rem.s (Rem.s (Rem.s (Rem.s (Rem.s (Rem.s (Rem.s (Rem.s Rem.z)))))))) | apply Rems.s (Rem.s (Rem.s (Rem.s (Rem.s (Rem.s (Rem.s (Rem.s (Rem.s (Rem.s Rem.z))))))))))) ?_
      exact ⟨b7, _, [], _, rfl, rfl, rfl, rfl⟩

set_option maxRecDepth 20000 in
theorem eqInt64S (b off len cap : Nat) (l : List Value) (u : TypeId) (fr : Nat × Nat) (es : List Int) (he : es.length = len) (hl : ∀ i, i < len → l[off + i * 1]? = some (.int .i64 (es.getD i 0))) (b2 off2 cap2 : Nat) (l2 : List Value) (u2 : TypeId) (fr2 : Nat × Nat) (hl2 : ∀ i, i < len → l2[off2 + i * 1]? = some (.int .i64 (es.getD i 0))) (hb : len ≤ 9223372036854775807) : SpecV Try.prog 26 [.slice (some ⟨b, off, none⟩) len cap, .slice (some ⟨b2, off2, none⟩) len cap2] [(b, .cells l.toArray u fr), (b2, .cells l2.toArray u2 fr2)] (.bool true) := by
  refine spec_of Try.func26 rfl Try.ntmps26 rfl (fun w0 => ?_)
  refine K_seq ?_
  refine R_region ?_
  refine r_assign rfl rfl rfl ?_
  refine R_nil ?_
  refine K_tn ?_
  refine K_seq ?_
  refine K_seq ?_
  refine R_region ?_
  refine r_move rfl rfl rfl ?_
  refine r_lenS sl_30 rfl rfl rfl ?_
  refine r_move rfl rfl rfl ?_
  refine r_lenS sl_30 rfl rfl rfl ?_
  refine s_neq rfl rfl rfl rfl (fun h10 => ?_) (fun h10 => ?_)
  · first
    | (exfalso; first | omega | (simp_all; done))
    |
      refine R_nil ?_
      refine K_tn ?_
      refine K_cond_t rfl ?_
      refine K_seq ?_
      refine R_region ?_
      refine r_assign rfl rfl rfl ?_
      refine R_nil ?_
      refine K_tn ?_
      refine K_ret ?_
      refine K_tr ?_
      refine K_done (H' := []) rfl rfl (.s (.tmp rfl) .z) (by repeat (first | exact .z | apply Rems.s Rem.z | apply Rems.s (Rem.s Rem.z) | apply Rems.s (Rem.s (Rem.s Rem.z)) | apply Rems.s (Rem.s (Rem.s (Rem.s Rem.z))) | apply Rems.s (Rem.s (Rem.s (Rem.s (Rem.s Rem.z)))) | apply Rems.s (Rem.s (Rem.s (Rem.s (Rem.s (Rem.s Rem.z))))) | apply Rems.s (Rem.s (Rem.s (Rem.s (Rem.s (Rem.s (Rem.s Rem.z)))))) | apply Rems.s (Rem.s (Rem.s (Rem.s (Rem.s (Rem.s (Rem.s (Rem.s Rem.z))))))) | apply Rems.s (Rem.s (Rem.s (Rem.s (Rem.s (Rem.s (Rem.s (Rem.s (Rem.s Rem.z)))))))) | apply Rems.s (Rem.s (Rem.s (Rem.s (Rem.s (Rem.s (Rem.s (Rem.s (Rem.s (Rem.s Rem.z))))))))))) ?_
      refine ⟨?_, rfl⟩
      rfl
  · first
    | (exfalso; first | omega | (simp_all; done))
    |
      refine R_nil ?_
      refine K_tn ?_
      refine K_cond_f rfl ?_
      refine K_skip ?_
      refine K_tn ?_
      refine K_seq ?_
      refine K_seq ?_
      refine R_region ?_
      refine r_assign rfl rfl rfl ?_
      refine R_nil ?_
      refine K_tn ?_
      refine K_block ?_
      refine K_loop (fun (k : Nat) => k ≤ len) (fun k => [(0, .slice (some ⟨b, off, none⟩) len cap), (1, .slice (some ⟨b2, off2, none⟩) len cap2), (5, .int .i64 (k : Int))]) (fun _ => []) (fun k => len - k) 0 (by omega) (by repeat (first | exact trivial | refine ⟨rfl, ?_⟩)) (by repeat (first | exact .z | apply Rems.s Rem.z | apply Rems.s (Rem.s Rem.z) | apply Rems.s (Rem.s (Rem.s Rem.z)) | apply Rems.s (Rem.s (Rem.s (Rem.s Rem.z))) | apply Rems.s (Rem.s (Rem.s (Rem.s (Rem.s Rem.z)))) | apply Rems.s (Rem.s (Rem.s (Rem.s (Rem.s (Rem.s Rem.z))))) | apply Rems.s (Rem.s (Rem.s (Rem.s (Rem.s (Rem.s (Rem.s Rem.z)))))) | apply Rems.s (Rem.s (Rem.s (Rem.s (Rem.s (Rem.s (Rem.s (Rem.s Rem.z))))))) | apply Rems.s (Rem.s (Rem.s (Rem.s (Rem.s (Rem.s (Rem.s (Rem.s (Rem.s Rem.z)))))))) | apply Rems.s (Rem.s (Rem.s (Rem.s (Rem.s (Rem.s (Rem.s (Rem.s (Rem.s (Rem.s Rem.z))))))))))) (fun k hp => ?_)
      refine K_seq ?_
      refine K_seq ?_
      refine R_region ?_
      refine r_move rfl rfl rfl ?_
      refine r_move rfl rfl rfl ?_
      refine r_lenS sl_30 rfl rfl rfl ?_
      refine s_lss rfl rfl rfl rfl (fun h14 => ?_) (fun h14 => ?_)
      · first
        | (exfalso; first | omega | (simp_all; done))
        |
          refine R_nil ?_
          refine K_tn ?_
          refine K_cond_t rfl ?_
          refine K_skip ?_
          refine K_tn ?_
          refine K_seq ?_
          refine K_block ?_
          refine K_seq ?_
          refine R_drawAll mixed (by kernel_rfl) ?_
          refine q_pure rfl rfl (p_move rfl) ?_
          refine q_pure rfl rfl (p_move rfl) ?_
          refine q_pure rfl rfl (p_indexS sl_30 sz_2 rfl rfl (by omega)) ?_
          refine q_pure rfl rfl (p_load ag_2 rfl (by first | exact .h .z | exact .h (.s .z) | exact .h (.s (.s .z)) | exact .h (.s (.s (.s .z))) | exact .h (.s (.s (.s (.s .z)))) | exact .h (.s (.s (.s (.s (.s .z))))) | exact .h (.s (.s (.s (.s (.s (.s .z)))))) | exact .h (.s (.s (.s (.s (.s (.s (.s .z))))))) | exact .h (.s (.s (.s (.s (.s (.s (.s (.s .z)))))))) | exact .x .z | exact .x (.s .z) | exact .x (.s (.s .z)) | exact .x (.s (.s (.s .z))) | exact .x (.s (.s (.s (.s .z)))) | exact .x (.s (.s (.s (.s (.s .z))))) | exact .x (.s (.s (.s (.s (.s (.s .z))))))) (by first | rfl | exact hl _ (by omega) | exact hl2 _ (by omega))) ?_
          refine q_pure rfl rfl (p_move rfl) ?_
          refine q_pure rfl rfl (p_move rfl) ?_
          refine q_pure rfl rfl (p_indexS sl_30 sz_2 rfl rfl (by omega)) ?_
          refine q_pure rfl rfl (p_load ag_2 rfl (by first | exact .h .z | exact .h (.s .z) | exact .h (.s (.s .z)) | exact .h (.s (.s (.s .z))) | exact .h (.s (.s (.s (.s .z)))) | exact .h (.s (.s (.s (.s (.s .z))))) | exact .h (.s (.s (.s (.s (.s (.s .z)))))) | exact .h (.s (.s (.s (.s (.s (.s (.s .z))))))) | exact .h (.s (.s (.s (.s (.s (.s (.s (.s .z)))))))) | exact .x .z | exact .x (.s .z) | exact .x (.s (.s .z)) | exact .x (.s (.s (.s .z))) | exact .x (.s (.s (.s (.s .z)))) | exact .x (.s (.s (.s (.s (.s .z))))) | exact .x (.s (.s (.s (.s (.s (.s .z))))))) (by first | rfl | exact hl _ (by omega) | exact hl2 _ (by omega))) ?_
          refine q_pure rfl rfl (p_tcmp rfl rfl (fun _ _ => c_neq)) ?_
          refine KQ_split (d := 25) rfl (fun h25 => ?_) (fun h25 => ?_)
          · try replace h25 := of_decide_eq_false (by simpa using h25)
            first
            | (exfalso; first | omega | (simp_all; done))
            |
              refine q_nil ?_
              refine K_tn ?_
              refine K_cond_t rfl ?_
              refine K_seq ?_
              refine R_region ?_
              refine r_assign rfl rfl rfl ?_
              refine R_nil ?_
              refine K_tn ?_
              refine K_ret ?_
              refine K_br ?_
              refine K_tr ?_
              refine K_tr ?_
              refine K_br ?_
              refine K_tr ?_
              refine K_done (H' := []) rfl rfl (.s (.tmp rfl) .z) (by repeat (first | exact .z | apply Rems.s Rem.z | apply Rems.s (Rem.s Rem.z) | apply Rems.s (Rem.s (Rem.s Rem.z)) | apply Rems.s (Rem.s (Rem.s (Rem.s Rem.z))) | apply Rems.s (Rem.s (Rem.s (Rem.s (Rem.s Rem.z)))) | apply Rems.s (Rem.s (Rem.s (Rem.s (Rem.s (Rem.s Rem.z))))) | apply Rems.s (Rem.s (Rem.s (Rem.s (Rem.s (Rem.s (Rem.s Rem.z)))))) | apply Rems.s (Rem.s (Rem.s (Rem.s (Rem.s (Rem.s (Rem.s (Rem.s Rem.z))))))) | apply Rems.s (Rem.s (Rem.s (Rem.s (Rem.s (Rem.s (Rem.s (Rem.s (Rem.s Rem.z)))))))) | apply Rems.s (Rem.s (Rem.s (Rem.s (Rem.s (Rem.s (Rem.s (Rem.s (Rem.s (Rem.s Rem.z))))))))))) ?_
              refine ⟨?_, rfl⟩
              rfl
          · try replace h25 := of_decide_eq_true (by simpa using h25)
            first
            | (exfalso; first | omega | (simp_all; done))
            |
              refine q_nil ?_
              refine K_tn ?_
              refine K_cond_f rfl ?_
              refine K_skip ?_
              refine K_bn ?_
              refine K_tn ?_
              refine R_region ?_
              refine r_move rfl rfl rfl ?_
              first | refine r_addN rfl rfl rfl rfl (i64K (by omega) (by omega)) ?_ | refine r_add rfl rfl rfl rfl (i64K (by omega) (by omega)) ?_
              refine r_assign rfl rfl rfl ?_
              refine R_nil ?_
              refine K_tn ?_
              exact K_again (k + 1) (by omega) (by omega) (by repeat (first | exact trivial | refine ⟨rfl, ?_⟩)) (by repeat (first | exact .z | apply Rems.s Rem.z | apply Rems.s (Rem.s Rem.z) | apply Rems.s (Rem.s (Rem.s Rem.z)) | apply Rems.s (Rem.s (Rem.s (Rem.s Rem.z))) | apply Rems.s (Rem.s (Rem.s (Rem.s (Rem.s Rem.z)))) | apply Rems.s (Rem.s (Rem.s (Rem.s (Rem.s (Rem.s Rem.z))))) | apply Rems.s (Rem.s (Rem.s (Rem.s (Rem.s (Rem.s (Rem.s Rem.z)))))) | apply Rems.s (Rem.s (Rem.s (Rem.s (Rem.s (Rem.s (Rem.s (Rem.s Rem.z))))))) | apply Rems.s (Rem.s (Rem.s (Rem.s (Rem.s (Rem.s (Rem.s (Rem.s (Rem.s Rem.z)))))))) | apply Rems.s (Rem.s (Rem.s (Rem.s (Rem.s (Rem.s (Rem.s (Rem.s (Rem.s (Rem.s Rem.z)))))))))))
      · first
        | (exfalso; first | omega | (simp_all; done))
        |
          refine R_nil ?_
          refine K_tn ?_
          refine K_cond_f rfl ?_
          refine K_exit ?_
          refine K_te ?_
          refine K_te ?_
          refine K_be ?_
          refine K_tn ?_
          refine K_seq ?_
          refine R_region ?_
          refine r_assign rfl rfl rfl ?_
          refine R_nil ?_
          refine K_tn ?_
          refine K_ret ?_
          refine K_done (H' := []) rfl rfl (.s (.tmp rfl) .z) (by repeat (first | exact .z | apply Rems.s Rem.z | apply Rems.s (Rem.s Rem.z) | apply Rems.s (Rem.s (Rem.s Rem.z)) | apply Rems.s (Rem.s (Rem.s (Rem.s Rem.z))) | apply Rems.s (Rem.s (Rem.s (Rem.s (Rem.s Rem.z)))) | apply Rems.s (Rem.s (Rem.s (Rem.s (Rem.s (Rem.s Rem.z))))) | apply Rems.s (Rem.s (Rem.s (Rem.s (Rem.s (Rem.s (Rem.s Rem.z)))))) | apply Rems.s (Rem.s (Rem.s (Rem.s (Rem.s (Rem.s (Rem.s (Rem.s Rem.z))))))) | apply Rems.s (Rem.s (Rem.s (Rem.s (Rem.s (Rem.s (Rem.s (Rem.s (Rem.s Rem.z)))))))) | apply Rems.s (Rem.s (Rem.s (Rem.s (Rem.s (Rem.s (Rem.s (Rem.s (Rem.s (Rem.s Rem.z))))))))))) ?_
          refine ⟨?_, rfl⟩
          rfl

set_option maxRecDepth 20000 in
theorem toGood (a : Gd) : SpecV Try.prog 75 [.agg (gd a).toArray] [] (.agg (gd a).toArray) := by
  refine spec_of Try.func75 rfl Try.ntmps75 rfl (fun w0 => ?_)
  refine K_seq ?_
  refine R_region ?_
  refine r_box rfl rfl rfl rfl (fun b1 => ?_)
  refine r_alloc zr_98 rfl rfl (fun b2 => ?_)
  refine R_nil ?_
  refine K_tn ?_
  refine K_seq ?_
  refine R_region ?_
  refine r_alloc zr_98 rfl rfl (fun b3 => ?_)
  refine R_nil ?_
  refine K_tn ?_
  refine K_seq ?_
  refine R_region ?_
  refine r_fieldAddr fd_100_0 rfl rfl rfl ?_
  refine r_load ag_41 rfl rfl rfl (by first | exact .h .z | exact .h (.s .z) | exact .h (.s (.s .z)) | exact .h (.s (.s (.s .z))) | exact .h (.s (.s (.s (.s .z)))) | exact .h (.s (.s (.s (.s (.s .z))))) | exact .h (.s (.s (.s (.s (.s (.s .z)))))) | exact .h (.s (.s (.s (.s (.s (.s (.s .z))))))) | exact .h (.s (.s (.s (.s (.s (.s (.s (.s .z)))))))) | exact .x .z | exact .x (.s .z) | exact .x (.s (.s .z)) | exact .x (.s (.s (.s .z))) | exact .x (.s (.s (.s (.s .z)))) | exact .x (.s (.s (.s (.s (.s .z))))) | exact .x (.s (.s (.s (.s (.s (.s .z))))))) (by first | rfl) ?_
  refine r_fieldAddr fd_98_0 rfl rfl rfl ?_
  refine r_store sz_41 rfl rfl rfl rfl (by first | exact .z | exact (.s .z) | exact (.s (.s .z)) | exact (.s (.s (.s .z))) | exact (.s (.s (.s (.s .z)))) | exact (.s (.s (.s (.s (.s .z))))) | exact (.s (.s (.s (.s (.s (.s .z)))))) | exact (.s (.s (.s (.s (.s (.s (.s .z))))))) | exact (.s (.s (.s (.s (.s (.s (.s (.s .z)))))))) | exact (.s (.s (.s (.s (.s (.s (.s (.s (.s .z)))))))))) (by first | rfl) ?_
  refine R_nil ?_
  refine K_tn ?_
  refine K_seq ?_
  refine R_region ?_
  refine r_fieldAddr fd_100_1 rfl rfl rfl ?_
  refine r_load ag_41 rfl rfl rfl (by first | exact .h .z | exact .h (.s .z) | exact .h (.s (.s .z)) | exact .h (.s (.s (.s .z))) | exact .h (.s (.s (.s (.s .z)))) | exact .h (.s (.s (.s (.s (.s .z))))) | exact .h (.s (.s (.s (.s (.s (.s .z)))))) | exact .h (.s (.s (.s (.s (.s (.s (.s .z))))))) | exact .h (.s (.s (.s (.s (.s (.s (.s (.s .z)))))))) | exact .x .z | exact .x (.s .z) | exact .x (.s (.s .z)) | exact .x (.s (.s (.s .z))) | exact .x (.s (.s (.s (.s .z)))) | exact .x (.s (.s (.s (.s (.s .z))))) | exact .x (.s (.s (.s (.s (.s (.s .z))))))) (by first | rfl) ?_
  refine r_fieldAddr fd_98_1 rfl rfl rfl ?_
  refine r_store sz_41 rfl rfl rfl rfl (by first | exact .z | exact (.s .z) | exact (.s (.s .z)) | exact (.s (.s (.s .z))) | exact (.s (.s (.s (.s .z)))) | exact (.s (.s (.s (.s (.s .z))))) | exact (.s (.s (.s (.s (.s (.s .z)))))) | exact (.s (.s (.s (.s (.s (.s (.s .z))))))) | exact (.s (.s (.s (.s (.s (.s (.s (.s .z)))))))) | exact (.s (.s (.s (.s (.s (.s (.s (.s (.s .z)))))))))) (by first | rfl) ?_
  refine R_nil ?_
  refine K_tn ?_
  refine K_seq ?_
  refine R_region ?_
  refine r_loadA ag_98 sz_98 rfl rfl rfl (by first | exact .h .z | exact .h (.s .z) | exact .h (.s (.s .z)) | exact .h (.s (.s (.s .z))) | exact .h (.s (.s (.s (.s .z)))) | exact .h (.s (.s (.s (.s (.s .z))))) | exact .h (.s (.s (.s (.s (.s (.s .z)))))) | exact .h (.s (.s (.s (.s (.s (.s (.s .z))))))) | exact .h (.s (.s (.s (.s (.s (.s (.s (.s .z)))))))) | exact .x .z | exact .x (.s .z) | exact .x (.s (.s .z)) | exact .x (.s (.s (.s .z))) | exact .x (.s (.s (.s (.s .z)))) | exact .x (.s (.s (.s (.s (.s .z))))) | exact .x (.s (.s (.s (.s (.s (.s .z))))))) (by first | rfl) ?_
  refine r_storeA sz_98 rfl rfl rfl (by first | rfl) (by first | rfl) (by first | exact .z | exact (.s .z) | exact (.s (.s .z)) | exact (.s (.s (.s .z))) | exact (.s (.s (.s (.s .z)))) | exact (.s (.s (.s (.s (.s .z))))) | exact (.s (.s (.s (.s (.s (.s .z)))))) | exact (.s (.s (.s (.s (.s (.s (.s .z))))))) | exact (.s (.s (.s (.s (.s (.s (.s (.s .z)))))))) | exact (.s (.s (.s (.s (.s (.s (.s (.s (.s .z)))))))))) (by first | rfl) ?_
  refine R_nil ?_
  refine K_tn ?_
  refine K_ret ?_
  refine K_done (H' := []) rfl rfl (.s (.cellA ag_98 sz_98 rfl (by first | exact .h .z | exact .h (.s .z) | exact .h (.s (.s .z)) | exact .h (.s (.s (.s .z))) | exact .h (.s (.s (.s (.s .z)))) | exact .h (.s (.s (.s (.s (.s .z))))) | exact .h (.s (.s (.s (.s (.s (.s .z)))))) | exact .h (.s (.s (.s (.s (.s (.s (.s .z))))))) | exact .h (.s (.s (.s (.s (.s (.s (.s (.s .z)))))))) | exact .x .z | exact .x (.s .z) | exact .x (.s (.s .z)) | exact .x (.s (.s (.s .z))) | exact .x (.s (.s (.s (.s .z)))) | exact .x (.s (.s (.s (.s (.s .z))))) | exact .x (.s (.s (.s (.s (.s (.s .z))))))) (by first | rfl)) .z) (by repeat (first | exact .z | apply Rems.s Rem.z | apply Rems.s (Rem.s Rem.z) | apply Rems.s (Rem.s (Rem.s Rem.z)) | apply Rems.s (Rem.s (Rem.s (Rem.s Rem.z))) | apply Rems.s (Rem.s (Rem.s (Rem.s (Rem.s Rem.z)))) | apply Rems.s (Rem.s (Rem.s (Rem.s (Rem.s (Rem.s Rem.z))))) | apply Rems.s (Rem.s (Rem.s (Rem.s (Rem.s (Rem.s (Rem.s Rem.z)))))) | apply Rems.s (Rem.s (Rem.s (Rem.s (Rem.s (Rem.s (Rem.s (Rem.s Rem.z))))))) | apply Rems.s (Rem.s (Rem.s (Rem.s (Rem.s (Rem.s (Rem.s (Rem.s (Rem.s Rem.z)))))))) | apply Rems.s (Rem.s (Rem.s (Rem.s (Rem.s (Rem.s (Rem.s (Rem.s (Rem.s (Rem.s Rem.z))))))))))) ?_
  refine ⟨?_, rfl⟩
  rfl

set_option maxRecDepth 20000 in
theorem toGoodS (b off len cap : Nat) (l : List Value) (u : TypeId) (fr : Nat × Nat) (es : List Gd) (he : es.length = len) (hl : ∀ i, i < len → takeAt l (off + i * 2) 2 = some (gd (es.getD i gz))) (hb : len ≤ 1048576) : Go.Sl.Spec Try.prog 20 [.slice (some ⟨b, off, none⟩) len cap] [(b, .cells l.toArray u fr)] [] (RowG gd es 2) := by
  refine spec_of Try.func20 rfl Try.ntmps20 rfl (fun w0 => ?_)
  refine K_seq ?_
  refine R_region ?_
  refine r_assign rfl rfl rfl ?_
  refine R_nil ?_
  refine K_tn ?_
  refine K_seq ?_
  refine R_region ?_
  refine r_move rfl rfl rfl ?_
  refine r_lenS sl_22 rfl rfl rfl ?_
  refine r_makeSlice sl_26 sz_98 zr_98 rfl by_98 rfl rfl rfl rfl ⟨by omega, by omega⟩ (fun b7 => ?_)
  rw [show (List.replicate len [Value.float .f32 0, Value.float .f32 0]).flatten = fm gd (cpG gz es 0 len) from zG gd gz es len]
  refine r_assign rfl rfl rfl ?_
  refine R_nil ?_
  refine K_tn ?_
  refine K_seq ?_
  refine K_seq ?_
  refine R_region ?_
  refine r_assign rfl rfl rfl ?_
  refine R_nil ?_
  refine K_tn ?_
  refine K_block ?_
  refine K_loop (fun (k : Nat) => k ≤ len) (fun k => [(0, .slice (some ⟨b, off, none⟩) len cap), (3, .slice (some ⟨b7, 0, none⟩) len len), (4, .int .i64 (k : Int))]) (fun k => [(b7, .cells (fm gd (cpG gz es k len)).toArray 98 (0, 0))]) (fun k => len - k) 0 (by omega) (by repeat (first | exact trivial | refine ⟨rfl, ?_⟩)) (by repeat (first | exact .z | apply Rems.s Rem.z | apply Rems.s (Rem.s Rem.z) | apply Rems.s (Rem.s (Rem.s Rem.z)) | apply Rems.s (Rem.s (Rem.s (Rem.s Rem.z))) | apply Rems.s (Rem.s (Rem.s (Rem.s (Rem.s Rem.z)))) | apply Rems.s (Rem.s (Rem.s (Rem.s (Rem.s (Rem.s Rem.z))))) | apply Rems.s (Rem.s (Rem.s (Rem.s (Rem.s (Rem.s (Rem.s Rem.z)))))) | apply Rems.s (Rem.s (Rem.s (Rem.s (Rem.s (Rem.s (Rem.s (Rem.s Rem.z))))))) | apply Rems.s (Rem.s (Rem.s (Rem.s (Rem.s (Rem.s (Rem.s (Rem.s (Rem.s Rem.z)))))))) | apply Rems.s (Rem.s (Rem.s (Rem.s (Rem.s (Rem.s (Rem.s (Rem.s (Rem.s (Rem.s Rem.z))))))))))) (fun k hp => ?_)
  refine K_seq ?_
  refine K_seq ?_
  refine R_region ?_
  refine r_move rfl rfl rfl ?_
  refine r_move rfl rfl rfl ?_
  refine r_lenS sl_22 rfl rfl rfl ?_
  refine s_lss rfl rfl rfl rfl (fun h11 => ?_) (fun h11 => ?_)
  · first
    | (exfalso; omega)
    |
      refine R_nil ?_
      refine K_tn ?_
      refine K_cond_t rfl ?_
      refine K_skip ?_
      refine K_tn ?_
      refine K_seq ?_
      refine K_block ?_
      refine R_region ?_
      refine r_move rfl rfl rfl ?_
      refine r_move rfl rfl rfl ?_
      refine r_move rfl rfl rfl ?_
      refine r_move rfl rfl rfl ?_
      refine r_indexS sl_22 sz_100 rfl rfl rfl rfl (by omega) ?_
      refine r_loadA ag_100 sz_100 rfl rfl rfl (by first | exact .h .z | exact .h (.s .z) | exact .h (.s (.s .z)) | exact .h (.s (.s (.s .z))) | exact .h (.s (.s (.s (.s .z)))) | exact .h (.s (.s (.s (.s (.s .z))))) | exact .h (.s (.s (.s (.s (.s (.s .z)))))) | exact .h (.s (.s (.s (.s (.s (.s (.s .z))))))) | exact .h (.s (.s (.s (.s (.s (.s (.s (.s .z)))))))) | exact .x .z | exact .x (.s .z) | exact .x (.s (.s .z)) | exact .x (.s (.s (.s .z))) | exact .x (.s (.s (.s (.s .z)))) | exact .x (.s (.s (.s (.s (.s .z))))) | exact .x (.s (.s (.s (.s (.s (.s .z))))))) (by first | rfl | exact hl _ (by omega)) ?_
      refine r_callV cb_75 rfl rfl rfl rfl rfl (toGood _) (by repeat (first | exact .z | refine .s (.h .z) ?_ | refine .s (.h (.s .z)) ?_ | refine .s (.h (.s (.s .z))) ?_ | refine .s (.h (.s (.s (.s .z)))) ?_ | refine .s (.h (.s (.s (.s (.s .z))))) ?_ | refine .s (.h (.s (.s (.s (.s (.s .z)))))) ?_ | refine .s (.h (.s (.s (.s (.s (.s (.s .z))))))) ?_ | refine .s (.h (.s (.s (.s (.s (.s (.s (.s .z)))))))) ?_ | refine .s (.h (.s (.s (.s (.s (.s (.s (.s (.s .z))))))))) ?_ | refine .s (.x .z) ?_ | refine .s (.x (.s .z)) ?_ | refine .s (.x (.s (.s .z))) ?_ | refine .s (.x (.s (.s (.s .z)))) ?_ | refine .s (.x (.s (.s (.s (.s .z))))) ?_ | refine .s (.x (.s (.s (.s (.s (.s .z)))))) ?_ | refine .s (.x (.s (.s (.s (.s (.s (.s .z))))))) ?_)) ?_
      refine r_indexS sl_26 sz_98 rfl rfl rfl rfl (by omega) ?_
      refine r_storeA sz_98 rfl rfl rfl (by first | rfl | exact fm_bound' gd_len (by rw [cpG_len (by omega) he]; omega)) (by first | rfl) (by first | exact .z | exact (.s .z) | exact (.s (.s .z)) | exact (.s (.s (.s .z))) | exact (.s (.s (.s (.s .z)))) | exact (.s (.s (.s (.s (.s .z))))) | exact (.s (.s (.s (.s (.s (.s .z)))))) | exact (.s (.s (.s (.s (.s (.s (.s .z))))))) | exact (.s (.s (.s (.s (.s (.s (.s (.s .z)))))))) | exact (.s (.s (.s (.s (.s (.s (.s (.s (.s .z)))))))))) (by first | rfl | exact fm_bound' gd_len (by rw [cpG_len (by omega) he]; omega)) ?_
      refine R_nil ?_
      refine K_bn ?_
      refine K_tn ?_
      refine R_region ?_
      refine r_move rfl rfl rfl ?_
      first | refine r_addN rfl rfl rfl rfl (i64K (by omega) (by omega)) ?_ | refine r_add rfl rfl rfl rfl (i64K (by omega) (by omega)) ?_
      refine r_assign rfl rfl rfl ?_
      refine R_nil ?_
      refine K_tn ?_
      rw [fm_put' gd_len _ (by rw [cpG_len (by omega) he]; omega), cpG_set (by omega) he]
      exact K_again (k + 1) (by omega) (by omega) (by repeat (first | exact trivial | refine ⟨rfl, ?_⟩)) (by repeat (first | exact .z | apply Rems.s Rem.z | apply Rems.s (Rem.s Rem.z) | apply Rems.s (Rem.s (Rem.s Rem.z)) | apply Rems.s (Rem.s (Rem.s (Rem.s Rem.z))) | apply Rems.s (Rem.s (Rem.s (Rem.s (Rem.s Rem.z)))) | apply Rems.s (Rem.s (Rem.s (Rem.s (Rem.s (Rem.s Rem.z))))) | apply Rems.s (Rem.s (Rem.s (Rem.s (Rem.s (Rem.s (Rem.s Rem.z)))))) | apply Rems.s (Rem.s (Rem.s (Rem.s (Rem.s (Rem.s (Rem.s (Rem.s Rem.z))))))) | apply Rems.s (Rem.s (Rem.s (Rem.s (Rem.s (Rem.s (Rem.s (Rem.s (Rem.s Rem.z)))))))) | apply Rems.s (Rem.s (Rem.s (Rem.s (Rem.s (Rem.s (Rem.s (Rem.s (Rem.s (Rem.s Rem.z)))))))))))
  · first
    | (exfalso; omega)
    |
      refine R_nil ?_
      refine K_tn ?_
      refine K_cond_f rfl ?_
      refine K_exit ?_
      refine K_te ?_
      refine K_te ?_
      refine K_be ?_
      refine K_tn ?_
      refine K_seq ?_
      refine R_region ?_
      have hk : k = len := by omega
      subst hk
      refine r_move rfl rfl rfl ?_
      refine r_assign rfl rfl rfl ?_
      refine R_nil ?_
      refine K_tn ?_
      refine K_ret ?_
      refine K_done (H' := [(b7, .cells (fm gd (cpG gz es k k)).toArray 98 (0, 0))]) rfl rfl (.s (.tmp rfl) .z) (by repeat (first | exact .z | apply Rems.s Rem.z | apply Rems.s (Rem.s Rem.z) | apply Rems.s (Rem.s (Rem.s Rem.z)) | apply Rems.s (Rem.s (Rem.s (Rem.s Rem.z))) | apply Rems.s (Rem.s (Rem.s (Rem.s (Rem.s Rem.z)))) | apply Rems.s (Rem.s (Rem.s (Rem.s (Rem.s (Rem.s Rem.z))))) | apply Rems.s (Rem.s (Rem.s (Rem.s (Rem.s (Rem.s (Rem.s Rem.z)))))) | apply Rems.s (Rem.s (Rem.s (Rem.s (Rem.s (Rem.s (Rem.s (Rem.s Rem.z))))))) | apply Rems.s (Rem.s (Rem.s (Rem.s (Rem.s (Rem.s (Rem.s (Rem.s (Rem.s Rem.z)))))))) | apply Rems.s (Rem.s (Rem.s (Rem.s (Rem.s (Rem.s (Rem.s (Rem.s (Rem.s (Rem.s Rem.z))))))))))) ?_
      exact ⟨b7, k, [], _, by rw [he]; rfl, by rw [he]; rfl, by omega, by rw [cpG_full he, List.append_nil]⟩

set_option maxRecDepth 20000 in
theorem toGoodS_nil (a : Option Addr) (cap : Nat) : Go.Sl.Spec Try.prog 20 [.slice a 0 cap] [] [] (RowG gd [] 2) := by
  refine spec_of Try.func20 rfl Try.ntmps20 rfl (fun w0 => ?_)
  refine K_seq ?_
  refine R_region ?_
  refine r_assign rfl rfl rfl ?_
  refine R_nil ?_
  refine K_tn ?_
  refine K_seq ?_
  refine R_region ?_
  refine r_move rfl rfl rfl ?_
  refine r_lenS sl_22 rfl rfl rfl ?_
  refine r_makeSlice sl_26 sz_98 zr_98 rfl by_98 rfl rfl rfl rfl ⟨by omega, by omega⟩ (fun b7 => ?_)
  rw [show (List.replicate 0 [Value.float .f32 0, Value.float .f32 0]).flatten = fm gd (cpG gz ([] : List Gd) 0 0) from zG gd gz ([] : List Gd) 0]
  refine r_assign rfl rfl rfl ?_
  refine R_nil ?_
  refine K_tn ?_
  refine K_seq ?_
  refine K_seq ?_
  refine R_region ?_
  refine r_assign rfl rfl rfl ?_
  refine R_nil ?_
  refine K_tn ?_
  refine K_block ?_
  refine K_loop (fun (k : Nat) => k ≤ 0) (fun k => [(0, .slice a 0 cap), (3, .slice (some ⟨b7, 0, none⟩) 0 0), (4, .int .i64 (k : Int))]) (fun k => [(b7, .cells (fm gd (cpG gz ([] : List Gd) k 0)).toArray 98 (0, 0))]) (fun k => 0 - k) 0 (by omega) (by repeat (first | exact trivial | refine ⟨rfl, ?_⟩)) (by repeat (first | exact .z | apply Rems.s Rem.z | apply Rems.s (Rem.s Rem.z) | apply Rems.s (Rem.s (Rem.s Rem.z)) | apply Rems.s (Rem.s (Rem.s (Rem.s Rem.z))) | apply Rems.s (Rem.s (Rem.s (Rem.s (Rem.s Rem.z)))) | apply Rems.s (Rem.s (Rem.s (Rem.s (Rem.s (Rem.s Rem.z))))) | apply Rems.s (Rem.s (Rem.s (Rem.s (Rem.s (Rem.s (Rem.s Rem.z)))))) | apply Rems.s (Rem.s (Rem.s (Rem.s (Rem.s (Rem.s (Rem.s (Rem.s Rem.z))))))) | apply Rems.s (Rem.s (Rem.s (Rem.s (Rem.s (Rem.s (Rem.s (Rem.s (Rem.s Rem.z)))))))) | apply Rems.s (Rem.s (Rem.s (Rem.s (Rem.s (Rem.s (Rem.s (Rem.s (Rem.s (Rem.s Rem.z))))))))))) (fun k hp => ?_)
  refine K_seq ?_
  refine K_seq ?_
  refine R_region ?_
  refine r_move rfl rfl rfl ?_
  refine r_move rfl rfl rfl ?_
  refine r_lenS sl_22 rfl rfl rfl ?_
  refine s_lss rfl rfl rfl rfl (fun h11 => ?_) (fun h11 => ?_)
  · first
    | (exfalso; omega)
    |
      refine R_nil ?_
      refine K_tn ?_
      refine K_cond_t rfl ?_
      refine K_skip ?_
      refine K_tn ?_
      refine K_seq ?_
      refine K_block ?_
      refine R_region ?_
      refine r_move rfl rfl rfl ?_
      refine r_move rfl rfl rfl ?_
      refine r_move rfl rfl rfl ?_
      refine r_move rfl rfl rfl ?_
      refine r_indexS sl_22 sz_100 rfl rfl rfl rfl (by omega) ?_
      refine r_loadA ag_100 sz_100 rfl rfl rfl (by first | exact .h .z | exact .h (.s .z) | exact .h (.s (.s .z)) | exact .h (.s (.s (.s .z))) | exact .h (.s (.s (.s (.s .z)))) | exact .h (.s (.s (.s (.s (.s .z))))) | exact .h (.s (.s (.s (.s (.s (.s .z)))))) | exact .h (.s (.s (.s (.s (.s (.s (.s .z))))))) | exact .h (.s (.s (.s (.s (.s (.s (.s (.s .z)))))))) | exact .x .z | exact .x (.s .z) | exact .x (.s (.s .z)) | exact .x (.s (.s (.s .z))) | exact .x (.s (.s (.s (.s .z)))) | exact .x (.s (.s (.s (.s (.s .z))))) | exact .x (.s (.s (.s (.s (.s (.s .z))))))) (by first | rfl | exact hl _ (by omega)) ?_
      refine r_callV cb_75 rfl rfl rfl rfl rfl (toGood _) (by repeat (first | exact .z | refine .s (.h .z) ?_ | refine .s (.h (.s .z)) ?_ | refine .s (.h (.s (.s .z))) ?_ | refine .s (.h (.s (.s (.s .z)))) ?_ | refine .s (.h (.s (.s (.s (.s .z))))) ?_ | refine .s (.h (.s (.s (.s (.s (.s .z)))))) ?_ | refine .s (.h (.s (.s (.s (.s (.s (.s .z))))))) ?_ | refine .s (.h (.s (.s (.s (.s (.s (.s (.s .z)))))))) ?_ | refine .s (.h (.s (.s (.s (.s (.s (.s (.s (.s .z))))))))) ?_ | refine .s (.x .z) ?_ | refine .s (.x (.s .z)) ?_ | refine .s (.x (.s (.s .z))) ?_ | refine .s (.x (.s (.s (.s .z)))) ?_ | refine .s (.x (.s (.s (.s (.s .z))))) ?_ | refine .s (.x (.s (.s (.s (.s (.s .z)))))) ?_ | refine .s (.x (.s (.s (.s (.s (.s (.s .z))))))) ?_)) ?_
      refine r_indexS sl_26 sz_98 rfl rfl rfl rfl (by omega) ?_
      refine r_storeA sz_98 rfl rfl rfl (by first | rfl | exact fm_bound' gd_len (by rw [cpG_len (by omega) he]; omega)) (by first | rfl) (by first | exact .z | exact (.s .z) | exact (.s (.s .z)) | exact (.s (.s (.s .z))) | exact (.s (.s (.s (.s .z)))) | exact (.s (.s (.s (.s (.s .z))))) | exact (.s (.s (.s (.s (.s (.s .z)))))) | exact (.s (.s (.s (.s (.s (.s (.s .z))))))) | exact (.s (.s (.s (.s (.s (.s (.s (.s .z)))))))) | exact (.s (.s (.s (.s (.s (.s (.s (.s (.s .z)))))))))) (by first | rfl | exact fm_bound' gd_len (by rw [cpG_len (by omega) he]; omega)) ?_
      refine R_nil ?_
      refine K_bn ?_
      refine K_tn ?_
      refine R_region ?_
      refine r_move rfl rfl rfl ?_
      first | refine r_addN rfl rfl rfl rfl (i64K (by omega) (by omega)) ?_ | refine r_add rfl rfl rfl rfl (i64K (by omega) (by omega)) ?_
      refine r_assign rfl rfl rfl ?_
      refine R_nil ?_
      refine K_tn ?_
      exact K_again (k + 1) (by omega) (by omega) (by repeat (first | exact trivial | refine ⟨rfl, ?_⟩)) (by repeat (first | exact .z | apply Rems.s Rem.z | apply Rems.s (Rem.s Rem.z) | apply Rems.s (Rem.s (Rem.s Rem.z)) | apply Rems.s (Rem.s (Rem.s (Rem.s Rem.z))) | apply Rems.s (Rem.s (Rem.s (Rem.s (Rem.s Rem.z)))) | apply Rems.s (Rem.s (Rem.s (Rem.s (Rem.s (Rem.s Rem.z))))) | apply Rems.s (Rem.s (Rem.s (Rem.s (Rem.s (Rem.s (Rem.s Rem.z)))))) | apply Rems.s (Rem.s (Rem.s (Rem.s (Rem.s (Rem.s (Rem.s (Rem.s Rem.z))))))) | apply Rems.s (Rem.s (Rem.s (Rem.s (Rem.s (Rem.s (Rem.s (Rem.s (Rem.s Rem.z)))))))) | apply Rems.s (Rem.s (Rem.s (Rem.s (Rem.s (Rem.s (Rem.s (Rem.s (Rem.s (Rem.s Rem.z)))))))))))
  · first
    | (exfalso; omega)
    |
      refine R_nil ?_
      refine K_tn ?_
      refine K_cond_f rfl ?_
      refine K_exit ?_
      refine K_te ?_
      refine K_te ?_
      refine K_be ?_
      refine K_tn ?_
      refine K_seq ?_
      refine R_region ?_
      have hk : k = 0 := by omega
      subst hk
      refine r_move rfl rfl rfl ?_
      refine r_assign rfl rfl rfl ?_
      refine R_nil ?_
      refine K_tn ?_
      refine K_ret ?_
      refine K_done (H' := [(b7, .cells (fm gd (cpG gz ([] : List Gd) 0 0)).toArray 98 (0, 0))]) rfl rfl (.s (.tmp rfl) .z) (by repeat (first | exact .z | apply Rems.s Rem.z | apply Rems.s (Rem.s Rem.z) | apply Rems.s (Rem.s (Rem.s Rem.z)) | apply Rems.s (Rem.s (Rem.s (Rem.s Rem.z))) | apply Rems.s (Rem.s (Rem.s (Rem.s (Rem.s Rem.z)))) | apply Rems.s (Rem.s (Rem.s (Rem.s (Rem.s (Rem.s Rem.z))))) | apply Rems.s (Rem.s (Rem.s (Rem.s (Rem.s (Rem.s (Rem.s Rem.z)))))) | apply Rems.s (Rem.s (Rem.s (Rem.s (Rem.s (Rem.s (Rem.s (Rem.s Rem.z))))))) | apply Rems.s (Rem.s (Rem.s (Rem.s (Rem.s (Rem.s (Rem.s (Rem.s (Rem.s Rem.z)))))))) | apply Rems.s (Rem.s (Rem.s (Rem.s (Rem.s (Rem.s (Rem.s (Rem.s (Rem.s (Rem.s Rem.z))))))))))) ?_
      exact ⟨b7, 0, [], _, rfl, rfl, Nat.le_refl _, rfl⟩

set_option maxRecDepth 20000 in
theorem szGoodS (a : Option Addr) (len cap : Nat) (left : Int) (h0 : 0 ≤ left) (h1 : left ≤ 1048576) (h2 : len ≤ 9223372036854775807) : SpecV Try.prog 18 [.slice a len cap, .int .i64 left] [] (.int .i64 (szL left len)) := by
  refine spec_of Try.func18 rfl Try.ntmps18 rfl (fun w0 => ?_)
  refine K_seq ?_
  refine R_region ?_
  refine r_assign rfl rfl rfl ?_
  refine R_nil ?_
  refine K_tn ?_
  refine K_seq ?_
  refine R_region ?_
  refine r_move rfl rfl rfl ?_
  refine r_move rfl rfl rfl ?_
  refine r_lenS sl_22 rfl rfl rfl ?_
  first | refine r_subN rfl rfl rfl rfl (i64K (by omega) (by omega)) (by omega) ?_ | refine r_sub rfl rfl rfl rfl (i64K (by omega) (by omega)) ?_
  refine r_assign rfl rfl rfl ?_
  refine R_nil ?_
  refine K_tn ?_
  refine K_seq ?_
  refine K_seq ?_
  refine R_region ?_
  refine r_move rfl rfl rfl ?_
  refine s_lss rfl rfl rfl rfl (fun h10 => ?_) (fun h10 => ?_)
  · first
    | (exfalso; omega)
    |
      refine R_nil ?_
      refine K_tn ?_
      refine K_cond_t rfl ?_
      refine K_seq ?_
      refine R_region ?_
      refine r_assign rfl rfl rfl ?_
      refine R_nil ?_
      refine K_tn ?_
      refine K_ret ?_
      refine K_tr ?_
      refine K_done (H' := []) rfl rfl (.s (.tmp rfl) .z) (by repeat (first | exact .z | apply Rems.s Rem.z | apply Rems.s (Rem.s Rem.z) | apply Rems.s (Rem.s (Rem.s Rem.z)) | apply Rems.s (Rem.s (Rem.s (Rem.s Rem.z))) | apply Rems.s (Rem.s (Rem.s (Rem.s (Rem.s Rem.z)))) | apply Rems.s (Rem.s (Rem.s (Rem.s (Rem.s (Rem.s Rem.z))))) | apply Rems.s (Rem.s (Rem.s (Rem.s (Rem.s (Rem.s (Rem.s Rem.z)))))) | apply Rems.s (Rem.s (Rem.s (Rem.s (Rem.s (Rem.s (Rem.s (Rem.s Rem.z))))))) | apply Rems.s (Rem.s (Rem.s (Rem.s (Rem.s (Rem.s (Rem.s (Rem.s (Rem.s Rem.z)))))))) | apply Rems.s (Rem.s (Rem.s (Rem.s (Rem.s (Rem.s (Rem.s (Rem.s (Rem.s (Rem.s Rem.z))))))))))) ?_
      refine ⟨?_, rfl⟩
      first | (simp_all [packV, szL]; done; done) | (simp_all [packV, szL]; omega; done) | (simp_all [packV, szL]; (intro _; omega); done)
  · first
    | (exfalso; omega)
    |
      refine R_nil ?_
      refine K_tn ?_
      refine K_cond_f rfl ?_
      refine K_skip ?_
      refine K_tn ?_
      refine K_seq ?_
      refine R_region ?_
      refine r_move rfl rfl rfl ?_
      refine r_assign rfl rfl rfl ?_
      refine R_nil ?_
      refine K_tn ?_
      refine K_ret ?_
      refine K_done (H' := []) rfl rfl (.s (.tmp rfl) .z) (by repeat (first | exact .z | apply Rems.s Rem.z | apply Rems.s (Rem.s Rem.z) | apply Rems.s (Rem.s (Rem.s Rem.z)) | apply Rems.s (Rem.s (Rem.s (Rem.s Rem.z))) | apply Rems.s (Rem.s (Rem.s (Rem.s (Rem.s Rem.z)))) | apply Rems.s (Rem.s (Rem.s (Rem.s (Rem.s (Rem.s Rem.z))))) | apply Rems.s (Rem.s (Rem.s (Rem.s (Rem.s (Rem.s (Rem.s Rem.z)))))) | apply Rems.s (Rem.s (Rem.s (Rem.s (Rem.s (Rem.s (Rem.s (Rem.s Rem.z))))))) | apply Rems.s (Rem.s (Rem.s (Rem.s (Rem.s (Rem.s (Rem.s (Rem.s (Rem.s Rem.z)))))))) | apply Rems.s (Rem.s (Rem.s (Rem.s (Rem.s (Rem.s (Rem.s (Rem.s (Rem.s (Rem.s Rem.z))))))))))) ?_
      refine ⟨?_, rfl⟩
      first | (simp_all [packV, szL]; done; done) | (simp_all [packV, szL]; omega; done) | (simp_all [packV, szL]; (intro _; omega); done)

set_option maxRecDepth 20000 in
theorem indexFuncGood (b off len cap : Nat) (l : List Value) (u : TypeId) (fr : Nat × Nat) (es : List Gd) (he : es.length = len) (hl : ∀ i, i < len → takeAt l (off + i * 2) 2 = some (gd (es.getD i gz))) (f : FuncId) (first cc : List Value) (X : Hp) (p : Gd → Bool) (hcb : callB Try.prog f = true) (hf : ∀ a : Gd, SpecV Try.prog f (first ++ [.agg (gd a).toArray] ++ cc) X (.bool (p a))) (hb : len ≤ 9223372036854775807) : SpecV Try.prog 146 [.slice (some ⟨b, off, none⟩) len cap, .func (.func f) first.toArray cc.toArray] ((b, .cells l.toArray u fr) :: X) (.int .i64 (idxOf p es)) := by
  refine spec_of Try.func146 rfl Try.ntmps146 rfl (fun w0 => ?_)
  refine K_seq ?_
  refine R_region ?_
  refine r_assign rfl rfl rfl ?_
  refine R_nil ?_
  refine K_tn ?_
  refine K_seq ?_
  refine K_seq ?_
  refine R_region ?_
  refine r_move rfl rfl rfl ?_
  refine r_lenS sl_26 rfl rfl rfl ?_
  refine r_move rfl rfl rfl ?_
  refine R_nil ?_
  refine K_tn ?_
  refine K_block ?_
  refine K_loop (fun (k : Nat) => k ≤ len ∧ ∀ j, j < k → p (es.getD j gz) = false) (fun k => [(0, .slice (some ⟨b, off, none⟩) len cap), (1, .func (.func f) first.toArray cc.toArray), (7, .int .i64 (len : Int)), (8, .int .i64 (k : Int))]) (fun _ => []) (fun k => len - k) 0 (by exact ⟨Nat.zero_le _, fun j hj => absurd hj (Nat.not_lt_zero _)⟩) (by repeat (first | exact trivial | refine ⟨rfl, ?_⟩)) (by repeat (first | exact .z | apply Rems.s Rem.z | apply Rems.s (Rem.s Rem.z) | apply Rems.s (Rem.s (Rem.s Rem.z)) | apply Rems.s (Rem.s (Rem.s (Rem.s Rem.z))) | apply Rems.s (Rem.s (Rem.s (Rem.s (Rem.s Rem.z)))) | apply Rems.s (Rem.s (Rem.s (Rem.s (Rem.s (Rem.s Rem.z))))) | apply Rems.s (Rem.s (Rem.s (Rem.s (Rem.s (Rem.s (Rem.s Rem.z)))))) | apply Rems.s (Rem.s (Rem.s (Rem.s (Rem.s (Rem.s (Rem.s (Rem.s Rem.z))))))) | apply Rems.s (Rem.s (Rem.s (Rem.s (Rem.s (Rem.s (Rem.s (Rem.s (Rem.s Rem.z)))))))) | apply Rems.s (Rem.s (Rem.s (Rem.s (Rem.s (Rem.s (Rem.s (Rem.s (Rem.s (Rem.s Rem.z))))))))))) (fun k hp => ?_)
  obtain ⟨hk, hno⟩ := hp
  refine K_seq ?_
  refine R_region ?_
  refine s_lss rfl rfl rfl rfl (fun h9 => ?_) (fun h9 => ?_)
  · first
    | (exfalso; omega)
    |
      refine R_nil ?_
      refine K_tn ?_
      refine K_seq ?_
      refine K_cond_t rfl ?_
      refine K_skip ?_
      refine K_tn ?_
      refine K_seq ?_
      refine K_block ?_
      refine K_seq ?_
      refine R_region ?_
      refine r_move rfl rfl rfl ?_
      refine r_assign rfl rfl rfl ?_
      refine R_nil ?_
      refine K_tn ?_
      refine K_seq ?_
      refine R_region ?_
      refine r_move rfl rfl rfl ?_
      refine r_move rfl rfl rfl ?_
      refine r_move rfl rfl rfl ?_
      refine r_indexS sl_26 sz_98 rfl rfl rfl rfl (by omega) ?_
      refine r_loadA ag_98 sz_98 rfl rfl rfl (by first | exact .h .z | exact .h (.s .z) | exact .h (.s (.s .z)) | exact .h (.s (.s (.s .z))) | exact .h (.s (.s (.s (.s .z)))) | exact .h (.s (.s (.s (.s (.s .z))))) | exact .h (.s (.s (.s (.s (.s (.s .z)))))) | exact .h (.s (.s (.s (.s (.s (.s (.s .z))))))) | exact .h (.s (.s (.s (.s (.s (.s (.s (.s .z)))))))) | exact .x .z | exact .x (.s .z) | exact .x (.s (.s .z)) | exact .x (.s (.s (.s .z))) | exact .x (.s (.s (.s (.s .z)))) | exact .x (.s (.s (.s (.s (.s .z))))) | exact .x (.s (.s (.s (.s (.s (.s .z))))))) (by first | rfl | exact hl _ (by omega)) ?_
      refine s_callV hcb rfl rfl rfl rfl rfl (hf _) (insMono (insSelf _ _)) (fun h16 => ?_) (fun h16 => ?_)
      · first
        | (exfalso; omega)
        |
          refine R_nil ?_
          refine K_tn ?_
          refine K_cond_t rfl ?_
          refine K_seq ?_
          refine R_region ?_
          refine r_move rfl rfl rfl ?_
          refine r_assign rfl rfl rfl ?_
          refine R_nil ?_
          refine K_tn ?_
          refine K_ret ?_
          refine K_br ?_
          refine K_tr ?_
          refine K_tr ?_
          refine K_br ?_
          refine K_tr ?_
          refine K_done (H' := []) rfl rfl (.s (.tmp rfl) .z) (by repeat (first | exact .z | apply Rems.s Rem.z | apply Rems.s (Rem.s Rem.z) | apply Rems.s (Rem.s (Rem.s Rem.z)) | apply Rems.s (Rem.s (Rem.s (Rem.s Rem.z))) | apply Rems.s (Rem.s (Rem.s (Rem.s (Rem.s Rem.z)))) | apply Rems.s (Rem.s (Rem.s (Rem.s (Rem.s (Rem.s Rem.z))))) | apply Rems.s (Rem.s (Rem.s (Rem.s (Rem.s (Rem.s (Rem.s Rem.z)))))) | apply Rems.s (Rem.s (Rem.s (Rem.s (Rem.s (Rem.s (Rem.s (Rem.s Rem.z))))))) | apply Rems.s (Rem.s (Rem.s (Rem.s (Rem.s (Rem.s (Rem.s (Rem.s (Rem.s Rem.z)))))))) | apply Rems.s (Rem.s (Rem.s (Rem.s (Rem.s (Rem.s (Rem.s (Rem.s (Rem.s (Rem.s Rem.z))))))))))) ?_
          refine ⟨?_, rfl⟩
          first | (exact congrArg (Value.int .i64) (idxOf_some (d := gz) (by omega) h16 hno).symm; done) | (exact congrArg (Value.int .i64) (idxOf_none (d := gz) (fun j hj => hno j (by omega))).symm; done)
      · first
        | (exfalso; omega)
        |
          refine R_nil ?_
          refine K_tn ?_
          refine K_cond_f rfl ?_
          refine K_skip ?_
          refine K_bn ?_
          refine K_tn ?_
          refine R_region ?_
          first | refine r_addN rfl rfl rfl rfl (i64K (by omega) (by omega)) ?_ | refine r_add rfl rfl rfl rfl (i64K (by omega) (by omega)) ?_
          refine r_move rfl rfl rfl ?_
          refine R_nil ?_
          refine K_tn ?_
          exact K_again (k + 1) (by exact ⟨by omega, fun j hj => by rcases Nat.lt_succ_iff_lt_or_eq.1 hj with h | h; exact hno j h; subst h; exact h16⟩) (by omega) (by repeat (first | exact trivial | refine ⟨rfl, ?_⟩)) (by repeat (first | exact .z | apply Rems.s Rem.z | apply Rems.s (Rem.s Rem.z) | apply Rems.s (Rem.s (Rem.s Rem.z)) | apply Rems.s (Rem.s (Rem.s (Rem.s Rem.z))) | apply Rems.s (Rem.s (Rem.s (Rem.s (Rem.s Rem.z)))) | apply Rems.s (Rem.s (Rem.s (Rem.s (Rem.s (Rem.s Rem.z))))) | apply Rems.s (Rem.s (Rem.s (Rem.s (Rem.s (Rem.s (Rem.s Rem.z)))))) | apply Rems.s (Rem.s (Rem.s (Rem.s (Rem.s (Rem.s (Rem.s (Rem.s Rem.z))))))) | apply Rems.s (Rem.s (Rem.s (Rem.s (Rem.s (Rem.s (Rem.s (Rem.s (Rem.s Rem.z)))))))) | apply Rems.s (Rem.s (Rem.s (Rem.s (Rem.s (Rem.s (Rem.s (Rem.s (Rem.s (Rem.s Rem.z)))))))))))
  · first
    | (exfalso; omega)
    |
      refine R_nil ?_
      refine K_tn ?_
      refine K_seq ?_
      refine K_cond_f rfl ?_
      refine K_exit ?_
      refine K_te ?_
      refine K_te ?_
      refine K_be ?_
      refine K_tn ?_
      refine K_seq ?_
      refine R_region ?_
      refine r_assign rfl rfl rfl ?_
      refine R_nil ?_
      refine K_tn ?_
      refine K_ret ?_
      refine K_done (H' := []) rfl rfl (.s (.tmp rfl) .z) (by repeat (first | exact .z | apply Rems.s Rem.z | apply Rems.s (Rem.s Rem.z) | apply Rems.s (Rem.s (Rem.s Rem.z)) | apply Rems.s (Rem.s (Rem.s (Rem.s Rem.z))) | apply Rems.s (Rem.s (Rem.s (Rem.s (Rem.s Rem.z)))) | apply Rems.s (Rem.s (Rem.s (Rem.s (Rem.s (Rem.s Rem.z))))) | apply Rems.s (Rem.s (Rem.s (Rem.s (Rem.s (Rem.s (Rem.s Rem.z)))))) | apply Rems.s (Rem.s (Rem.s (Rem.s (Rem.s (Rem.s (Rem.s (Rem.s Rem.z))))))) | apply Rems.s (Rem.s (Rem.s (Rem.s (Rem.s (Rem.s (Rem.s (Rem.s (Rem.s Rem.z)))))))) | apply Rems.s (Rem.s (Rem.s (Rem.s (Rem.s (Rem.s (Rem.s (Rem.s (Rem.s (Rem.s Rem.z))))))))))) ?_
      refine ⟨?_, rfl⟩
      first | (exact congrArg (Value.int .i64) (idxOf_some (d := gz) (by omega) h16 hno).symm; done) | (exact congrArg (Value.int .i64) (idxOf_none (d := gz) (fun j hj => hno j (by omega))).symm; done)

set_option maxRecDepth 20000 in
theorem containsFuncGood (b off len cap : Nat) (l : List Value) (u : TypeId) (fr : Nat × Nat) (es : List Gd) (he : es.length = len) (hl : ∀ i, i < len → takeAt l (off + i * 2) 2 = some (gd (es.getD i gz))) (f : FuncId) (first cc : List Value) (X : Hp) (p : Gd → Bool) (hcb : callB Try.prog f = true) (hf : ∀ a : Gd, SpecV Try.prog f (first ++ [.agg (gd a).toArray] ++ cc) X (.bool (p a))) (hb : len ≤ 9223372036854775807) : SpecV Try.prog 124 [.slice (some ⟨b, off, none⟩) len cap, .func (.func f) first.toArray cc.toArray] ((b, .cells l.toArray u fr) :: X) (.bool (es.any p)) := by
  refine spec_of Try.func124 rfl Try.ntmps124 rfl (fun w0 => ?_)
  refine K_seq ?_
  refine R_region ?_
  refine r_assign rfl rfl rfl ?_
  refine R_nil ?_
  refine K_tn ?_
  refine K_seq ?_
  refine R_region ?_
  refine r_move rfl rfl rfl ?_
  refine r_move rfl rfl rfl ?_
  refine r_callV cb_146 rfl rfl rfl rfl rfl (indexFuncGood _ _ _ _ _ _ _ _ he hl _ _ _ _ p hcb hf hb) (.s (.x .z) (insMono (insSelf _ _))) ?_
  refine v_cmp rfl rfl rfl rfl (fun _ _ => c_geq) ?_
  refine r_assign rfl rfl rfl ?_
  refine R_nil ?_
  refine K_tn ?_
  refine K_ret ?_
  refine K_done (H' := []) rfl rfl (.s (.tmp rfl) .z) (by repeat (first | exact .z | apply Rems.s Rem.z | apply Rems.s (Rem.s Rem.z) | apply Rems.s (Rem.s (Rem.s Rem.z)) | apply Rems.s (Rem.s (Rem.s (Rem.s Rem.z))) | apply Rems.s (Rem.s (Rem.s (Rem.s (Rem.s Rem.z)))) | apply Rems.s (Rem.s (Rem.s (Rem.s (Rem.s (Rem.s Rem.z))))) | apply Rems.s (Rem.s (Rem.s (Rem.s (Rem.s (Rem.s (Rem.s Rem.z)))))) | apply Rems.s (Rem.s (Rem.s (Rem.s (Rem.s (Rem.s (Rem.s (Rem.s Rem.z))))))) | apply Rems.s (Rem.s (Rem.s (Rem.s (Rem.s (Rem.s (Rem.s (Rem.s (Rem.s Rem.z)))))))) | apply Rems.s (Rem.s (Rem.s (Rem.s (Rem.s (Rem.s (Rem.s (Rem.s (Rem.s (Rem.s Rem.z))))))))))) ?_
  refine ⟨?_, rfl⟩
  exact congrArg Value.bool (idxOf_any p es)

set_option maxRecDepth 20000 in
theorem eqGood (a : Gd) : SpecV Try.prog 78 [.agg (gd a).toArray, .agg (gd a).toArray] [] (.bool true) := by
  refine spec_of Try.func78 rfl Try.ntmps78 rfl (fun w0 => ?_)
  refine K_seq ?_
  refine R_region ?_
  refine r_box rfl rfl rfl rfl (fun b2 => ?_)
  refine r_box rfl rfl rfl rfl (fun b3 => ?_)
  refine r_assign rfl rfl rfl ?_
  refine R_nil ?_
  refine K_tn ?_
  refine K_seq ?_
  refine K_seq ?_
  refine R_region ?_
  refine r_fieldAddr fd_98_0 rfl rfl rfl ?_
  refine r_load ag_41 rfl rfl rfl (by first | exact .h .z | exact .h (.s .z) | exact .h (.s (.s .z)) | exact .h (.s (.s (.s .z))) | exact .h (.s (.s (.s (.s .z)))) | exact .h (.s (.s (.s (.s (.s .z))))) | exact .h (.s (.s (.s (.s (.s (.s .z)))))) | exact .h (.s (.s (.s (.s (.s (.s (.s .z))))))) | exact .h (.s (.s (.s (.s (.s (.s (.s (.s .z)))))))) | exact .x .z | exact .x (.s .z) | exact .x (.s (.s .z)) | exact .x (.s (.s (.s .z))) | exact .x (.s (.s (.s (.s .z)))) | exact .x (.s (.s (.s (.s (.s .z))))) | exact .x (.s (.s (.s (.s (.s (.s .z))))))) (by first | rfl) ?_
  refine r_convW ⟨_, un_41⟩ un_56 rfl rfl rfl (fun z7 hz7 => ?_)
  refine r_fieldAddr fd_98_0 rfl rfl rfl ?_
  refine r_load ag_41 rfl rfl rfl (by first | exact .h .z | exact .h (.s .z) | exact .h (.s (.s .z)) | exact .h (.s (.s (.s .z))) | exact .h (.s (.s (.s (.s .z)))) | exact .h (.s (.s (.s (.s (.s .z))))) | exact .h (.s (.s (.s (.s (.s (.s .z)))))) | exact .h (.s (.s (.s (.s (.s (.s (.s .z))))))) | exact .h (.s (.s (.s (.s (.s (.s (.s (.s .z)))))))) | exact .x .z | exact .x (.s .z) | exact .x (.s (.s .z)) | exact .x (.s (.s (.s .z))) | exact .x (.s (.s (.s (.s .z)))) | exact .x (.s (.s (.s (.s (.s .z))))) | exact .x (.s (.s (.s (.s (.s (.s .z))))))) (by first | rfl) ?_
  refine r_convW ⟨_, un_41⟩ un_56 rfl rfl rfl (fun z10 hz10 => ?_)
  refine s_callV cb_41 rfl rfl rfl rfl rfl (sameFloat_W _ _ _ (by assumption) (by assumption)) (by repeat (first | exact .z | refine .s (.h .z) ?_ | refine .s (.h (.s .z)) ?_ | refine .s (.h (.s (.s .z))) ?_ | refine .s (.h (.s (.s (.s .z)))) ?_ | refine .s (.h (.s (.s (.s (.s .z))))) ?_ | refine .s (.h (.s (.s (.s (.s (.s .z)))))) ?_ | refine .s (.h (.s (.s (.s (.s (.s (.s .z))))))) ?_ | refine .s (.h (.s (.s (.s (.s (.s (.s (.s .z)))))))) ?_ | refine .s (.h (.s (.s (.s (.s (.s (.s (.s (.s .z))))))))) ?_ | refine .s (.x .z) ?_ | refine .s (.x (.s .z)) ?_ | refine .s (.x (.s (.s .z))) ?_ | refine .s (.x (.s (.s (.s .z)))) ?_ | refine .s (.x (.s (.s (.s (.s .z))))) ?_ | refine .s (.x (.s (.s (.s (.s (.s .z)))))) ?_ | refine .s (.x (.s (.s (.s (.s (.s (.s .z))))))) ?_)) (fun h11 => ?_) (fun h11 => ?_)
  · first
    | (exfalso; first | omega | (simp_all; done))
    |
      refine r_not rfl rfl rfl ?_
      refine R_nil ?_
      refine K_tn ?_
      refine K_cond_f rfl ?_
      refine K_skip ?_
      refine K_tn ?_
      refine K_seq ?_
      refine K_seq ?_
      refine R_region ?_
      refine r_fieldAddr fd_98_1 rfl rfl rfl ?_
      refine r_load ag_41 rfl rfl rfl (by first | exact .h .z | exact .h (.s .z) | exact .h (.s (.s .z)) | exact .h (.s (.s (.s .z))) | exact .h (.s (.s (.s (.s .z)))) | exact .h (.s (.s (.s (.s (.s .z))))) | exact .h (.s (.s (.s (.s (.s (.s .z)))))) | exact .h (.s (.s (.s (.s (.s (.s (.s .z))))))) | exact .h (.s (.s (.s (.s (.s (.s (.s (.s .z)))))))) | exact .x .z | exact .x (.s .z) | exact .x (.s (.s .z)) | exact .x (.s (.s (.s .z))) | exact .x (.s (.s (.s (.s .z)))) | exact .x (.s (.s (.s (.s (.s .z))))) | exact .x (.s (.s (.s (.s (.s (.s .z))))))) (by first | rfl) ?_
      refine r_convW ⟨_, un_41⟩ un_56 rfl rfl rfl (fun z15 hz15 => ?_)
      refine r_fieldAddr fd_98_1 rfl rfl rfl ?_
      refine r_load ag_41 rfl rfl rfl (by first | exact .h .z | exact .h (.s .z) | exact .h (.s (.s .z)) | exact .h (.s (.s (.s .z))) | exact .h (.s (.s (.s (.s .z)))) | exact .h (.s (.s (.s (.s (.s .z))))) | exact .h (.s (.s (.s (.s (.s (.s .z)))))) | exact .h (.s (.s (.s (.s (.s (.s (.s .z))))))) | exact .h (.s (.s (.s (.s (.s (.s (.s (.s .z)))))))) | exact .x .z | exact .x (.s .z) | exact .x (.s (.s .z)) | exact .x (.s (.s (.s .z))) | exact .x (.s (.s (.s (.s .z)))) | exact .x (.s (.s (.s (.s (.s .z))))) | exact .x (.s (.s (.s (.s (.s (.s .z))))))) (by first | rfl) ?_
      refine r_convW ⟨_, un_41⟩ un_56 rfl rfl rfl (fun z18 hz18 => ?_)
      refine s_callV cb_41 rfl rfl rfl rfl rfl (sameFloat_W _ _ _ (by assumption) (by assumption)) (by repeat (first | exact .z | refine .s (.h .z) ?_ | refine .s (.h (.s .z)) ?_ | refine .s (.h (.s (.s .z))) ?_ | refine .s (.h (.s (.s (.s .z)))) ?_ | refine .s (.h (.s (.s (.s (.s .z))))) ?_ | refine .s (.h (.s (.s (.s (.s (.s .z)))))) ?_ | refine .s (.h (.s (.s (.s (.s (.s (.s .z))))))) ?_ | refine .s (.h (.s (.s (.s (.s (.s (.s (.s .z)))))))) ?_ | refine .s (.h (.s (.s (.s (.s (.s (.s (.s (.s .z))))))))) ?_ | refine .s (.x .z) ?_ | refine .s (.x (.s .z)) ?_ | refine .s (.x (.s (.s .z))) ?_ | refine .s (.x (.s (.s (.s .z)))) ?_ | refine .s (.x (.s (.s (.s (.s .z))))) ?_ | refine .s (.x (.s (.s (.s (.s (.s .z)))))) ?_ | refine .s (.x (.s (.s (.s (.s (.s (.s .z))))))) ?_)) (fun h19 => ?_) (fun h19 => ?_)
      · first
        | (exfalso; first | omega | (simp_all; done))
        |
          refine r_not rfl rfl rfl ?_
          refine R_nil ?_
          refine K_tn ?_
          refine K_cond_f rfl ?_
          refine K_skip ?_
          refine K_tn ?_
          refine K_seq ?_
          refine R_region ?_
          refine r_assign rfl rfl rfl ?_
          refine R_nil ?_
          refine K_tn ?_
          refine K_ret ?_
          refine K_done (H' := []) rfl rfl (.s (.tmp rfl) .z) (by repeat (first | exact .z | apply Rems.s Rem.z | apply Rems.s (Rem.s Rem.z) | apply Rems.s (Rem.s (Rem.s Rem.z)) | apply Rems.s (Rem.s (Rem.s (Rem.s Rem.z))) | apply Rems.s (Rem.s (Rem.s (Rem.s (Rem.s Rem.z)))) | apply Rems.s (Rem.s (Rem.s (Rem.s (Rem.s (Rem.s Rem.z))))) | apply Rems.s (Rem.s (Rem.s (Rem.s (Rem.s (Rem.s (Rem.s Rem.z)))))) | apply Rems.s (Rem.s (Rem.s (Rem.s (Rem.s (Rem.s (Rem.s (Rem.s Rem.z))))))) | apply Rems.s (Rem.s (Rem.s (Rem.s (Rem.s (Rem.s (Rem.s (Rem.s (Rem.s Rem.z)))))))) | apply Rems.s (Rem.s (Rem.s (Rem.s (Rem.s (Rem.s (Rem.s (Rem.s (Rem.s (Rem.s Rem.z))))))))))) ?_
          refine ⟨?_, rfl⟩
          rfl
      · first
        | (exfalso; first | omega | (simp_all; done))
        |
          refine r_not rfl rfl rfl ?_
          refine R_nil ?_
          refine K_tn ?_
          refine K_cond_t rfl ?_
          refine K_seq ?_
          refine R_region ?_
          refine r_assign rfl rfl rfl ?_
          refine R_nil ?_
          refine K_tn ?_
          refine K_ret ?_
          refine K_tr ?_
          refine K_done (H' := []) rfl rfl (.s (.tmp rfl) .z) (by repeat (first | exact .z | apply Rems.s Rem.z | apply Rems.s (Rem.s Rem.z) | apply Rems.s (Rem.s (Rem.s Rem.z)) | apply Rems.s (Rem.s (Rem.s (Rem.s Rem.z))) | apply Rems.s (Rem.s (Rem.s (Rem.s (Rem.s Rem.z)))) | apply Rems.s (Rem.s (Rem.s (Rem.s (Rem.s (Rem.s Rem.z))))) | apply Rems.s (Rem.s (Rem.s (Rem.s (Rem.s (Rem.s (Rem.s Rem.z)))))) | apply Rems.s (Rem.s (Rem.s (Rem.s (Rem.s (Rem.s (Rem.s (Rem.s Rem.z))))))) | apply Rems.s (Rem.s (Rem.s (Rem.s (Rem.s (Rem.s (Rem.s (Rem.s (Rem.s Rem.z)))))))) | apply Rems.s (Rem.s (Rem.s (Rem.s (Rem.s (Rem.s (Rem.s (Rem.s (Rem.s (Rem.s Rem.z))))))))))) ?_
          refine ⟨?_, rfl⟩
          rfl
  · first
    | (exfalso; first | omega | (simp_all; done))
    |
      refine r_not rfl rfl rfl ?_
      refine R_nil ?_
      refine K_tn ?_
      refine K_cond_t rfl ?_
      refine K_seq ?_
      refine R_region ?_
      refine r_assign rfl rfl rfl ?_
      refine R_nil ?_
      refine K_tn ?_
      refine K_ret ?_
      refine K_tr ?_
      refine K_done (H' := []) rfl rfl (.s (.tmp rfl) .z) (by repeat (first | exact .z | apply Rems.s Rem.z | apply Rems.s (Rem.s Rem.z) | apply Rems.s (Rem.s (Rem.s Rem.z)) | apply Rems.s (Rem.s (Rem.s (Rem.s Rem.z))) | apply Rems.s (Rem.s (Rem.s (Rem.s (Rem.s Rem.z)))) | apply Rems.s (Rem.s (Rem.s (Rem.s (Rem.s (Rem.s Rem.z))))) | apply Rems.s (Rem.s (Rem.s (Rem.s (Rem.s (Rem.s (Rem.s Rem.z)))))) | apply Rems.s (Rem.s (Rem.s (Rem.s (Rem.s (Rem.s (Rem.s (Rem.s Rem.z))))))) | apply Rems.s (Rem.s (Rem.s (Rem.s (Rem.s (Rem.s (Rem.s (Rem.s (Rem.s Rem.z)))))))) | apply Rems.s (Rem.s (Rem.s (Rem.s (Rem.s (Rem.s (Rem.s (Rem.s (Rem.s (Rem.s Rem.z))))))))))) ?_
      refine ⟨?_, rfl⟩
      rfl

set_option maxRecDepth 20000 in
theorem eqGoodS (b off len cap : Nat) (l : List Value) (u : TypeId) (fr : Nat × Nat) (es : List Gd) (he : es.length = len) (hl : ∀ i, i < len → takeAt l (off + i * 2) 2 = some (gd (es.getD i gz))) (b2 off2 cap2 : Nat) (l2 : List Value) (u2 : TypeId) (fr2 : Nat × Nat) (hl2 : ∀ i, i < len → takeAt l2 (off2 + i * 2) 2 = some (gd (es.getD i gz))) (hb : len ≤ 9223372036854775807) : SpecV Try.prog 22 [.slice (some ⟨b, off, none⟩) len cap, .slice (some ⟨b2, off2, none⟩) len cap2] [(b, .cells l.toArray u fr), (b2, .cells l2.toArray u2 fr2)] (.bool true) := by
  refine spec_of Try.func22 rfl Try.ntmps22 rfl (fun w0 => ?_)
  refine K_seq ?_
  refine R_region ?_
  refine r_assign rfl rfl rfl ?_
  refine R_nil ?_
  refine K_tn ?_
  refine K_seq ?_
  refine K_seq ?_
  refine R_region ?_
  refine r_move rfl rfl rfl ?_
  refine r_lenS sl_26 rfl rfl rfl ?_
  refine r_move rfl rfl rfl ?_
  refine r_lenS sl_26 rfl rfl rfl ?_
  refine s_neq rfl rfl rfl rfl (fun h10 => ?_) (fun h10 => ?_)
  · first
    | (exfalso; first | omega | (simp_all; done))
    |
      refine R_nil ?_
      refine K_tn ?_
      refine K_cond_t rfl ?_
      refine K_seq ?_
      refine R_region ?_
      refine r_assign rfl rfl rfl ?_
      refine R_nil ?_
      refine K_tn ?_
      refine K_ret ?_
      refine K_tr ?_
      refine K_done (H' := []) rfl rfl (.s (.tmp rfl) .z) (by repeat (first | exact .z | apply Rems.s Rem.z | apply Rems.s (Rem.s Rem.z) | apply Rems.s (Rem.s (Rem.s Rem.z)) | apply Rems.s (Rem.s (Rem.s (Rem.s Rem.z))) | apply Rems.s (Rem.s (Rem.s (Rem.s (Rem.s Rem.z)))) | apply Rems.s (Rem.s (Rem.s (Rem.s (Rem.s (Rem.s Rem.z))))) | apply Rems.s (Rem.s (Rem.s (Rem.s (Rem.s (Rem.s (Rem.s Rem.z)))))) | apply Rems.s (Rem.s (Rem.s (Rem.s (Rem.s (Rem.s (Rem.s (Rem.s Rem.z))))))) | apply Rems.s (Rem.s (Rem.s (Rem.s (Rem.s (Rem.s (Rem.s (Rem.s (Rem.s Rem.z)))))))) | apply Rems.s (Rem.s (Rem.s (Rem.s (Rem.s (Rem.s (Rem.s (Rem.s (Rem.s (Rem.s Rem.z))))))))))) ?_
      refine ⟨?_, rfl⟩
      rfl
  · first
    | (exfalso; first | omega | (simp_all; done))
    |
      refine R_nil ?_
      refine K_tn ?_
      refine K_cond_f rfl ?_
      refine K_skip ?_
      refine K_tn ?_
      refine K_seq ?_
      refine K_seq ?_
      refine R_region ?_
      refine r_assign rfl rfl rfl ?_
      refine R_nil ?_
      refine K_tn ?_
      refine K_block ?_
      refine K_loop (fun (k : Nat) => k ≤ len) (fun k => [(0, .slice (some ⟨b, off, none⟩) len cap), (1, .slice (some ⟨b2, off2, none⟩) len cap2), (5, .int .i64 (k : Int))]) (fun _ => []) (fun k => len - k) 0 (by omega) (by repeat (first | exact trivial | refine ⟨rfl, ?_⟩)) (by repeat (first | exact .z | apply Rems.s Rem.z | apply Rems.s (Rem.s Rem.z) | apply Rems.s (Rem.s (Rem.s Rem.z)) | apply Rems.s (Rem.s (Rem.s (Rem.s Rem.z))) | apply Rems.s (Rem.s (Rem.s (Rem.s (Rem.s Rem.z)))) | apply Rems.s (Rem.s (Rem.s (Rem.s (Rem.s (Rem.s Rem.z))))) | apply Rems.s (Rem.s (Rem.s (Rem.s (Rem.s (Rem.s (Rem.s Rem.z)))))) | apply Rems.s (Rem.s (Rem.s (Rem.s (Rem.s (Rem.s (Rem.s (Rem.s Rem.z))))))) | apply Rems.s (Rem.s (Rem.s (Rem.s (Rem.s (Rem.s (Rem.s (Rem.s (Rem.s Rem.z)))))))) | apply Rems.s (Rem.s (Rem.s (Rem.s (Rem.s (Rem.s (Rem.s (Rem.s (Rem.s (Rem.s Rem.z))))))))))) (fun k hp => ?_)
      refine K_seq ?_
      refine K_seq ?_
      refine R_region ?_
      refine r_move rfl rfl rfl ?_
      refine r_move rfl rfl rfl ?_
      refine r_lenS sl_26 rfl rfl rfl ?_
      refine s_lss rfl rfl rfl rfl (fun h14 => ?_) (fun h14 => ?_)
      · first
        | (exfalso; first | omega | (simp_all; done))
        |
          refine R_nil ?_
          refine K_tn ?_
          refine K_cond_t rfl ?_
          refine K_skip ?_
          refine K_tn ?_
          refine K_seq ?_
          refine K_block ?_
          refine K_seq ?_
          refine R_drawAll mixed (by kernel_rfl) ?_
          refine q_pure rfl rfl (p_move rfl) ?_
          refine q_pure rfl rfl (p_move rfl) ?_
          refine q_pure rfl rfl (p_indexS sl_26 sz_98 rfl rfl (by omega)) ?_
          refine q_pure rfl rfl (p_loadA ag_98 sz_98 rfl (by first | exact .h .z | exact .h (.s .z) | exact .h (.s (.s .z)) | exact .h (.s (.s (.s .z))) | exact .h (.s (.s (.s (.s .z)))) | exact .h (.s (.s (.s (.s (.s .z))))) | exact .h (.s (.s (.s (.s (.s (.s .z)))))) | exact .h (.s (.s (.s (.s (.s (.s (.s .z))))))) | exact .h (.s (.s (.s (.s (.s (.s (.s (.s .z)))))))) | exact .x .z | exact .x (.s .z) | exact .x (.s (.s .z)) | exact .x (.s (.s (.s .z))) | exact .x (.s (.s (.s (.s .z)))) | exact .x (.s (.s (.s (.s (.s .z))))) | exact .x (.s (.s (.s (.s (.s (.s .z))))))) (by first | rfl | exact hl _ (by omega) | exact hl2 _ (by omega))) ?_
          refine q_pure rfl rfl (p_move rfl) ?_
          refine q_pure rfl rfl (p_move rfl) ?_
          refine q_pure rfl rfl (p_indexS sl_26 sz_98 rfl rfl (by omega)) ?_
          refine q_pure rfl rfl (p_loadA ag_98 sz_98 rfl (by first | exact .h .z | exact .h (.s .z) | exact .h (.s (.s .z)) | exact .h (.s (.s (.s .z))) | exact .h (.s (.s (.s (.s .z)))) | exact .h (.s (.s (.s (.s (.s .z))))) | exact .h (.s (.s (.s (.s (.s (.s .z)))))) | exact .h (.s (.s (.s (.s (.s (.s (.s .z))))))) | exact .h (.s (.s (.s (.s (.s (.s (.s (.s .z)))))))) | exact .x .z | exact .x (.s .z) | exact .x (.s (.s .z)) | exact .x (.s (.s (.s .z))) | exact .x (.s (.s (.s (.s .z)))) | exact .x (.s (.s (.s (.s (.s .z))))) | exact .x (.s (.s (.s (.s (.s (.s .z))))))) (by first | rfl | exact hl _ (by omega) | exact hl2 _ (by omega))) ?_
          refine q_callV cb_78 rfl rfl rfl rfl rfl (eqGood _) (by repeat (first | exact .z | refine .s (.h .z) ?_ | refine .s (.h (.s .z)) ?_ | refine .s (.h (.s (.s .z))) ?_ | refine .s (.h (.s (.s (.s .z)))) ?_ | refine .s (.h (.s (.s (.s (.s .z))))) ?_ | refine .s (.h (.s (.s (.s (.s (.s .z)))))) ?_ | refine .s (.h (.s (.s (.s (.s (.s (.s .z))))))) ?_ | refine .s (.h (.s (.s (.s (.s (.s (.s (.s .z)))))))) ?_ | refine .s (.h (.s (.s (.s (.s (.s (.s (.s (.s .z))))))))) ?_ | refine .s (.x .z) ?_ | refine .s (.x (.s .z)) ?_ | refine .s (.x (.s (.s .z))) ?_ | refine .s (.x (.s (.s (.s .z)))) ?_ | refine .s (.x (.s (.s (.s (.s .z))))) ?_ | refine .s (.x (.s (.s (.s (.s (.s .z)))))) ?_ | refine .s (.x (.s (.s (.s (.s (.s (.s .z))))))) ?_)) ?_
          refine KQ_split (d := 25) rfl (fun h25 => ?_) (fun h25 => ?_)
          · first
            | (exfalso; first | omega | (simp_all; done))
            |
              refine q_pure rfl rfl (p_not rfl) ?_
              refine q_nil ?_
              refine K_tn ?_
              refine K_cond_f rfl ?_
              refine K_skip ?_
              refine K_bn ?_
              refine K_tn ?_
              refine R_region ?_
              refine r_move rfl rfl rfl ?_
              first | refine r_addN rfl rfl rfl rfl (i64K (by omega) (by omega)) ?_ | refine r_add rfl rfl rfl rfl (i64K (by omega) (by omega)) ?_
              refine r_assign rfl rfl rfl ?_
              refine R_nil ?_
              refine K_tn ?_
              exact K_again (k + 1) (by omega) (by omega) (by repeat (first | exact trivial | refine ⟨rfl, ?_⟩)) (by repeat (first | exact .z | apply Rems.s Rem.z | apply Rems.s (Rem.s Rem.z) | apply Rems.s (Rem.s (Rem.s Rem.z)) | apply Rems.s (Rem.s (Rem.s (Rem.s Rem.z))) | apply Rems.s (Rem.s (Rem.s (Rem.s (Rem.s Rem.z)))) | apply Rems.s (Rem.s (Rem.s (Rem.s (Rem.s (Rem.s Rem.z))))) | apply Rems.s (Rem.s (Rem.s (Rem.s (Rem.s (Rem.s (Rem.s Rem.z)))))) | apply Rems.s (Rem.s (Rem.s (Rem.s (Rem.s (Rem.s (Rem.s (Rem.s Rem.z))))))) | apply Rems.s (Rem.s (Rem.s (Rem.s (Rem.s (Rem.s (Rem.s (Rem.s (Rem.s Rem.z)))))))) | apply Rems.s (Rem.s (Rem.s (Rem.s (Rem.s (Rem.s (Rem.s (Rem.s (Rem.s (Rem.s Rem.z)))))))))))
          · first
            | (exfalso; first | omega | (simp_all; done))
            |
              refine q_pure rfl rfl (p_not rfl) ?_
              refine q_nil ?_
              refine K_tn ?_
              refine K_cond_t rfl ?_
              refine K_seq ?_
              refine R_region ?_
              refine r_assign rfl rfl rfl ?_
              refine R_nil ?_
              refine K_tn ?_
              refine K_ret ?_
              refine K_br ?_
              refine K_tr ?_
              refine K_tr ?_
              refine K_br ?_
              refine K_tr ?_
              refine K_done (H' := []) rfl rfl (.s (.tmp rfl) .z) (by repeat (first | exact .z | apply Rems.s Rem.z | apply Rems.s (Rem.s Rem.z) | apply Rems.s (Rem.s (Rem.s Rem.z)) | apply Rems.s (Rem.s (Rem.s (Rem.s Rem.z))) | apply Rems.s (Rem.s (Rem.s (Rem.s (Rem.s Rem.z)))) | apply Rems.s (Rem.s (Rem.s (Rem.s (Rem.s (Rem.s Rem.z))))) | apply Rems.s (Rem.s (Rem.s (Rem.s (Rem.s (Rem.s (Rem.s Rem.z)))))) | apply Rems.s (Rem.s (Rem.s (Rem.s (Rem.s (Rem.s (Rem.s (Rem.s Rem.z))))))) | apply Rems.s (Rem.s (Rem.s (Rem.s (Rem.s (Rem.s (Rem.s (Rem.s (Rem.s Rem.z)))))))) | apply Rems.s (Rem.s (Rem.s (Rem.s (Rem.s (Rem.s (Rem.s (Rem.s (Rem.s (Rem.s Rem.z))))))))))) ?_
              refine ⟨?_, rfl⟩
              rfl
      · first
        | (exfalso; first | omega | (simp_all; done))
        |
          refine R_nil ?_
          refine K_tn ?_
          refine K_cond_f rfl ?_
          refine K_exit ?_
          refine K_te ?_
          refine K_te ?_
          refine K_be ?_
          refine K_tn ?_
          refine K_seq ?_
          refine R_region ?_
          refine r_assign rfl rfl rfl ?_
          refine R_nil ?_
          refine K_tn ?_
          refine K_ret ?_
          refine K_done (H' := []) rfl rfl (.s (.tmp rfl) .z) (by repeat (first | exact .z | apply Rems.s Rem.z | apply Rems.s (Rem.s Rem.z) | apply Rems.s (Rem.s (Rem.s Rem.z)) | apply Rems.s (Rem.s (Rem.s (Rem.s Rem.z))) | apply Rems.s (Rem.s (Rem.s (Rem.s (Rem.s Rem.z)))) | apply Rems.s (Rem.s (Rem.s (Rem.s (Rem.s (Rem.s Rem.z))))) | apply Rems.s (Rem.s (Rem.s (Rem.s (Rem.s (Rem.s (Rem.s Rem.z)))))) | apply Rems.s (Rem.s (Rem.s (Rem.s (Rem.s (Rem.s (Rem.s (Rem.s Rem.z))))))) | apply Rems.s (Rem.s (Rem.s (Rem.s (Rem.s (Rem.s (Rem.s (Rem.s (Rem.s Rem.z)))))))) | apply Rems.s (Rem.s (Rem.s (Rem.s (Rem.s (Rem.s (Rem.s (Rem.s (Rem.s (Rem.s Rem.z))))))))))) ?_
          refine ⟨?_, rfl⟩
          rfl

set_option maxRecDepth 20000 in
theorem l04GoodG (a : Gd) : SpecV Try.prog 123 [.agg (gd a).toArray] [] (.bool (validG a)) := by
  refine spec_of Try.func123 rfl Try.ntmps123 rfl (fun w0 => ?_)
  refine K_seq ?_
  refine R_region ?_
  refine r_box rfl rfl rfl rfl (fun b1 => ?_)
  refine r_assign rfl rfl rfl ?_
  refine R_nil ?_
  refine K_tn ?_
  refine K_seq ?_
  refine R_region ?_
  refine r_fieldAddr fd_98_0 rfl rfl rfl ?_
  refine r_load ag_41 rfl rfl rfl (by first | exact .h .z | exact .h (.s .z) | exact .h (.s (.s .z)) | exact .h (.s (.s (.s .z))) | exact .h (.s (.s (.s (.s .z)))) | exact .h (.s (.s (.s (.s (.s .z))))) | exact .h (.s (.s (.s (.s (.s (.s .z)))))) | exact .h (.s (.s (.s (.s (.s (.s (.s .z))))))) | exact .h (.s (.s (.s (.s (.s (.s (.s (.s .z)))))))) | exact .x .z | exact .x (.s .z) | exact .x (.s (.s .z)) | exact .x (.s (.s (.s .z))) | exact .x (.s (.s (.s (.s .z)))) | exact .x (.s (.s (.s (.s (.s .z))))) | exact .x (.s (.s (.s (.s (.s (.s .z))))))) (by first | rfl) ?_
  refine s_callV cb_132 rfl rfl rfl rfl rfl (l01Part _) (by repeat (first | exact .z | refine .s (.h .z) ?_ | refine .s (.h (.s .z)) ?_ | refine .s (.h (.s (.s .z))) ?_ | refine .s (.h (.s (.s (.s .z)))) ?_ | refine .s (.h (.s (.s (.s (.s .z))))) ?_ | refine .s (.h (.s (.s (.s (.s (.s .z)))))) ?_ | refine .s (.h (.s (.s (.s (.s (.s (.s .z))))))) ?_ | refine .s (.h (.s (.s (.s (.s (.s (.s (.s .z)))))))) ?_ | refine .s (.h (.s (.s (.s (.s (.s (.s (.s (.s .z))))))))) ?_ | refine .s (.x .z) ?_ | refine .s (.x (.s .z)) ?_ | refine .s (.x (.s (.s .z))) ?_ | refine .s (.x (.s (.s (.s .z)))) ?_ | refine .s (.x (.s (.s (.s (.s .z))))) ?_ | refine .s (.x (.s (.s (.s (.s (.s .z)))))) ?_ | refine .s (.x (.s (.s (.s (.s (.s (.s .z))))))) ?_)) (fun h5 => ?_) (fun h5 => ?_)
  · first
    | (exfalso; omega)
    |
      refine r_move rfl rfl rfl ?_
      refine r_fieldAddr fd_98_1 rfl rfl rfl ?_
      refine r_load ag_41 rfl rfl rfl (by first | exact .h .z | exact .h (.s .z) | exact .h (.s (.s .z)) | exact .h (.s (.s (.s .z))) | exact .h (.s (.s (.s (.s .z)))) | exact .h (.s (.s (.s (.s (.s .z))))) | exact .h (.s (.s (.s (.s (.s (.s .z)))))) | exact .h (.s (.s (.s (.s (.s (.s (.s .z))))))) | exact .h (.s (.s (.s (.s (.s (.s (.s (.s .z)))))))) | exact .x .z | exact .x (.s .z) | exact .x (.s (.s .z)) | exact .x (.s (.s (.s .z))) | exact .x (.s (.s (.s (.s .z)))) | exact .x (.s (.s (.s (.s (.s .z))))) | exact .x (.s (.s (.s (.s (.s (.s .z))))))) (by first | rfl) ?_
      refine r_callV cb_132 rfl rfl rfl rfl rfl (l01Part _) (by repeat (first | exact .z | refine .s (.h .z) ?_ | refine .s (.h (.s .z)) ?_ | refine .s (.h (.s (.s .z))) ?_ | refine .s (.h (.s (.s (.s .z)))) ?_ | refine .s (.h (.s (.s (.s (.s .z))))) ?_ | refine .s (.h (.s (.s (.s (.s (.s .z)))))) ?_ | refine .s (.h (.s (.s (.s (.s (.s (.s .z))))))) ?_ | refine .s (.h (.s (.s (.s (.s (.s (.s (.s .z)))))))) ?_ | refine .s (.h (.s (.s (.s (.s (.s (.s (.s (.s .z))))))))) ?_ | refine .s (.x .z) ?_ | refine .s (.x (.s .z)) ?_ | refine .s (.x (.s (.s .z))) ?_ | refine .s (.x (.s (.s (.s .z)))) ?_ | refine .s (.x (.s (.s (.s (.s .z))))) ?_ | refine .s (.x (.s (.s (.s (.s (.s .z)))))) ?_ | refine .s (.x (.s (.s (.s (.s (.s (.s .z))))))) ?_)) ?_
      refine r_pick_t rfl rfl rfl rfl ?_
      refine r_assign rfl rfl rfl ?_
      refine R_nil ?_
      refine K_tn ?_
      refine K_ret ?_
      refine K_done (H' := []) rfl rfl (.s (.tmp rfl) .z) (by repeat (first | exact .z | apply Rems.s Rem.z | apply Rems.s (Rem.s Rem.z) | apply Rems.s (Rem.s (Rem.s Rem.z)) | apply Rems.s (Rem.s (Rem.s (Rem.s Rem.z))) | apply Rems.s (Rem.s (Rem.s (Rem.s (Rem.s Rem.z)))) | apply Rems.s (Rem.s (Rem.s (Rem.s (Rem.s (Rem.s Rem.z))))) | apply Rems.s (Rem.s (Rem.s (Rem.s (Rem.s (Rem.s (Rem.s Rem.z)))))) | apply Rems.s (Rem.s (Rem.s (Rem.s (Rem.s (Rem.s (Rem.s (Rem.s Rem.z))))))) | apply Rems.s (Rem.s (Rem.s (Rem.s (Rem.s (Rem.s (Rem.s (Rem.s (Rem.s Rem.z)))))))) | apply Rems.s (Rem.s (Rem.s (Rem.s (Rem.s (Rem.s (Rem.s (Rem.s (Rem.s (Rem.s Rem.z))))))))))) ?_
      refine ⟨?_, rfl⟩
      simp [packV, validG, *]
  · first
    | (exfalso; omega)
    |
      refine r_move rfl rfl rfl ?_
      refine r_skip rfl rfl ?_
      refine r_skip rfl rfl ?_
      refine r_skip rfl rfl ?_
      refine r_pick_f rfl rfl rfl rfl ?_
      refine r_assign rfl rfl rfl ?_
      refine R_nil ?_
      refine K_tn ?_
      refine K_ret ?_
      refine K_done (H' := []) rfl rfl (.s (.tmp rfl) .z) (by repeat (first | exact .z | apply Rems.s Rem.z | apply Rems.s (Rem.s Rem.z) | apply Rems.s (Rem.s (Rem.s Rem.z)) | apply Rems.s (Rem.s (Rem.s (Rem.s Rem.z))) | apply Rems.s (Rem.s (Rem.s (Rem.s (Rem.s Rem.z)))) | apply Rems.s (Rem.s (Rem.s (Rem.s (Rem.s (Rem.s Rem.z))))) | apply Rems.s (Rem.s (Rem.s (Rem.s (Rem.s (Rem.s (Rem.s Rem.z)))))) | apply Rems.s (Rem.s (Rem.s (Rem.s (Rem.s (Rem.s (Rem.s (Rem.s Rem.z))))))) | apply Rems.s (Rem.s (Rem.s (Rem.s (Rem.s (Rem.s (Rem.s (Rem.s (Rem.s Rem.z)))))))) | apply Rems.s (Rem.s (Rem.s (Rem.s (Rem.s (Rem.s (Rem.s (Rem.s (Rem.s (Rem.s Rem.z))))))))))) ?_
      refine ⟨?_, rfl⟩
      simp [packV, validG, *]

set_option maxRecDepth 20000 in
theorem validGoodG (a : Gd) : SpecV Try.prog 126 [.agg (gd a).toArray] [] (.bool (validG a)) := by
  refine spec_of Try.func126 rfl Try.ntmps126 rfl (fun w0 => ?_)
  refine K_seq ?_
  refine R_region ?_
  refine r_box rfl rfl rfl rfl (fun b1 => ?_)
  refine r_assign rfl rfl rfl ?_
  refine R_nil ?_
  refine K_tn ?_
  refine K_seq ?_
  refine R_region ?_
  refine r_fieldAddr fd_98_0 rfl rfl rfl ?_
  refine r_load ag_41 rfl rfl rfl (by first | exact .h .z | exact .h (.s .z) | exact .h (.s (.s .z)) | exact .h (.s (.s (.s .z))) | exact .h (.s (.s (.s (.s .z)))) | exact .h (.s (.s (.s (.s (.s .z))))) | exact .h (.s (.s (.s (.s (.s (.s .z)))))) | exact .h (.s (.s (.s (.s (.s (.s (.s .z))))))) | exact .h (.s (.s (.s (.s (.s (.s (.s (.s .z)))))))) | exact .x .z | exact .x (.s .z) | exact .x (.s (.s .z)) | exact .x (.s (.s (.s .z))) | exact .x (.s (.s (.s (.s .z)))) | exact .x (.s (.s (.s (.s (.s .z))))) | exact .x (.s (.s (.s (.s (.s (.s .z))))))) (by first | rfl) ?_
  refine r_fieldAddr fd_98_1 rfl rfl rfl ?_
  refine r_load ag_41 rfl rfl rfl (by first | exact .h .z | exact .h (.s .z) | exact .h (.s (.s .z)) | exact .h (.s (.s (.s .z))) | exact .h (.s (.s (.s (.s .z)))) | exact .h (.s (.s (.s (.s (.s .z))))) | exact .h (.s (.s (.s (.s (.s (.s .z)))))) | exact .h (.s (.s (.s (.s (.s (.s (.s .z))))))) | exact .h (.s (.s (.s (.s (.s (.s (.s (.s .z)))))))) | exact .x .z | exact .x (.s .z) | exact .x (.s (.s .z)) | exact .x (.s (.s (.s .z))) | exact .x (.s (.s (.s (.s .z)))) | exact .x (.s (.s (.s (.s (.s .z))))) | exact .x (.s (.s (.s (.s (.s (.s .z))))))) (by first | rfl) ?_
  refine r_buildSlice sl_64 sz_41 zr_41 rfl rfl rfl rfl rfl (by first | rfl) (fun b7 => ?_)
  refine r_callV cb_147 rfl rfl rfl rfl rfl (areParts _ _ _ _ _ _ _ [a.1, a.2] rfl (fun i hi => gF0 (l := [a.1, a.2]) (by simpa using hi)) (by simp)) (by repeat (first | exact .z | refine .s (.h .z) ?_ | refine .s (.h (.s .z)) ?_ | refine .s (.h (.s (.s .z))) ?_ | refine .s (.h (.s (.s (.s .z)))) ?_ | refine .s (.h (.s (.s (.s (.s .z))))) ?_ | refine .s (.h (.s (.s (.s (.s (.s .z)))))) ?_ | refine .s (.h (.s (.s (.s (.s (.s (.s .z))))))) ?_ | refine .s (.h (.s (.s (.s (.s (.s (.s (.s .z)))))))) ?_ | refine .s (.h (.s (.s (.s (.s (.s (.s (.s (.s .z))))))))) ?_ | refine .s (.x .z) ?_ | refine .s (.x (.s .z)) ?_ | refine .s (.x (.s (.s .z))) ?_ | refine .s (.x (.s (.s (.s .z)))) ?_ | refine .s (.x (.s (.s (.s (.s .z))))) ?_ | refine .s (.x (.s (.s (.s (.s (.s .z)))))) ?_ | refine .s (.x (.s (.s (.s (.s (.s (.s .z))))))) ?_)) ?_
  refine r_assign rfl rfl rfl ?_
  refine R_nil ?_
  refine K_tn ?_
  refine K_ret ?_
  refine K_done (H' := []) rfl rfl (.s (.tmp rfl) .z) (by repeat (first | exact .z | apply Rems.s Rem.z | apply Rems.s (Rem.s Rem.z) | apply Rems.s (Rem.s (Rem.s Rem.z)) | apply Rems.s (Rem.s (Rem.s (Rem.s Rem.z))) | apply Rems.s (Rem.s (Rem.s (Rem.s (Rem.s Rem.z)))) | apply Rems.s (Rem.s (Rem.s (Rem.s (Rem.s (Rem.s Rem.z))))) | apply Rems.s (Rem.s (Rem.s (Rem.s (Rem.s (Rem.s (Rem.s Rem.z)))))) | apply Rems.s (Rem.s (Rem.s (Rem.s (Rem.s (Rem.s (Rem.s (Rem.s Rem.z))))))) | apply Rems.s (Rem.s (Rem.s (Rem.s (Rem.s (Rem.s (Rem.s (Rem.s (Rem.s Rem.z)))))))) | apply Rems.s (Rem.s (Rem.s (Rem.s (Rem.s (Rem.s (Rem.s (Rem.s (Rem.s (Rem.s Rem.z))))))))))) ?_
  refine ⟨?_, rfl⟩
  simp [packV, validG]

set_option maxRecDepth 20000 in
theorem l04Goods (b off len cap : Nat) (l : List Value) (u : TypeId) (fr : Nat × Nat) (es : List Gd) (he : es.length = len) (hl : ∀ i, i < len → takeAt l (off + i * 2) 2 = some (gd (es.getD i gz))) (hb : len ≤ 9223372036854775807) : SpecV Try.prog 73 [.slice (some ⟨b, off, none⟩) len cap] [(b, .cells l.toArray u fr)] (.int .i64 (gCode es)) := by
  refine spec_of Try.func73 rfl Try.ntmps73 rfl (fun w0 => ?_)
  have hl0 : ∀ i, i < len → l[off + i * 2 + 0]? = some (.float .f32 (es.getD i gz).1) := fun i hi => take_get (hl i hi) (by decide)
  have hl1 : ∀ i, i < len → l[off + i * 2 + 1]? = some (.float .f32 (es.getD i gz).2) := fun i hi => take_get (hl i hi) (by decide)
  refine K_seq ?_
  refine R_region ?_
  refine r_assign rfl rfl rfl ?_
  refine R_nil ?_
  refine K_tn ?_
  refine K_seq ?_
  refine K_seq ?_
  refine R_region ?_
  refine r_assign rfl rfl rfl ?_
  refine R_nil ?_
  refine K_tn ?_
  refine K_block ?_
  refine K_loop (fun (k : Nat) => k ≤ len ∧ ∀ j, j < k → validG (es.getD j gz) = true) (fun k => [(0, .slice (some ⟨b, off, none⟩) len cap), (3, .int .i64 (k : Int))]) (fun _ => []) (fun k => len - k) 0 (by exact ⟨Nat.zero_le _, fun j hj => absurd hj (Nat.not_lt_zero _)⟩) (by repeat (first | exact trivial | refine ⟨rfl, ?_⟩)) (by repeat (first | exact .z | apply Rems.s Rem.z | apply Rems.s (Rem.s Rem.z) | apply Rems.s (Rem.s (Rem.s Rem.z)) | apply Rems.s (Rem.s (Rem.s (Rem.s Rem.z))) | apply Rems.s (Rem.s (Rem.s (Rem.s (Rem.s Rem.z)))) | apply Rems.s (Rem.s (Rem.s (Rem.s (Rem.s (Rem.s Rem.z))))) | apply Rems.s (Rem.s (Rem.s (Rem.s (Rem.s (Rem.s (Rem.s Rem.z)))))) | apply Rems.s (Rem.s (Rem.s (Rem.s (Rem.s (Rem.s (Rem.s (Rem.s Rem.z))))))) | apply Rems.s (Rem.s (Rem.s (Rem.s (Rem.s (Rem.s (Rem.s (Rem.s (Rem.s Rem.z)))))))) | apply Rems.s (Rem.s (Rem.s (Rem.s (Rem.s (Rem.s (Rem.s (Rem.s (Rem.s (Rem.s Rem.z))))))))))) (fun k hp => ?_)
  obtain ⟨hk, hno⟩ := hp
  refine K_seq ?_
  refine K_seq ?_
  refine R_region ?_
  refine r_move rfl rfl rfl ?_
  refine r_move rfl rfl rfl ?_
  refine r_lenS sl_26 rfl rfl rfl ?_
  refine s_lss rfl rfl rfl rfl (fun h7 => ?_) (fun h7 => ?_)
  · first
    | (exfalso; omega)
    |
      refine R_nil ?_
      refine K_tn ?_
      refine K_cond_t rfl ?_
      refine K_skip ?_
      refine K_tn ?_
      refine K_seq ?_
      refine K_block ?_
      refine K_seq ?_
      refine R_region ?_
      refine r_move rfl rfl rfl ?_
      refine r_move rfl rfl rfl ?_
      refine r_indexS sl_26 sz_98 rfl rfl rfl rfl (by omega) ?_
      refine r_loadA ag_98 sz_98 rfl rfl rfl (by first | exact .h .z | exact .h (.s .z) | exact .h (.s (.s .z)) | exact .h (.s (.s (.s .z))) | exact .h (.s (.s (.s (.s .z)))) | exact .h (.s (.s (.s (.s (.s .z))))) | exact .h (.s (.s (.s (.s (.s (.s .z)))))) | exact .h (.s (.s (.s (.s (.s (.s (.s .z))))))) | exact .h (.s (.s (.s (.s (.s (.s (.s (.s .z)))))))) | exact .x .z | exact .x (.s .z) | exact .x (.s (.s .z)) | exact .x (.s (.s (.s .z))) | exact .x (.s (.s (.s (.s .z)))) | exact .x (.s (.s (.s (.s (.s .z))))) | exact .x (.s (.s (.s (.s (.s (.s .z))))))) (by first | rfl | exact hl _ (by omega) | exact hl0 _ (by omega) | exact hl1 _ (by omega)) ?_
      refine s_callV cb_123 rfl rfl rfl rfl rfl (l04GoodG _) (by repeat (first | exact .z | refine .s (.h .z) ?_ | refine .s (.h (.s .z)) ?_ | refine .s (.h (.s (.s .z))) ?_ | refine .s (.h (.s (.s (.s .z)))) ?_ | refine .s (.h (.s (.s (.s (.s .z))))) ?_ | refine .s (.h (.s (.s (.s (.s (.s .z)))))) ?_ | refine .s (.h (.s (.s (.s (.s (.s (.s .z))))))) ?_ | refine .s (.h (.s (.s (.s (.s (.s (.s (.s .z)))))))) ?_ | refine .s (.h (.s (.s (.s (.s (.s (.s (.s (.s .z))))))))) ?_ | refine .s (.x .z) ?_ | refine .s (.x (.s .z)) ?_ | refine .s (.x (.s (.s .z))) ?_ | refine .s (.x (.s (.s (.s .z)))) ?_ | refine .s (.x (.s (.s (.s (.s .z))))) ?_ | refine .s (.x (.s (.s (.s (.s (.s .z)))))) ?_ | refine .s (.x (.s (.s (.s (.s (.s (.s .z))))))) ?_)) (fun h14 => ?_) (fun h14 => ?_)
      · first
        | (exfalso; omega)
        |
          refine r_not rfl rfl rfl ?_
          refine R_nil ?_
          refine K_tn ?_
          refine K_cond_f rfl ?_
          refine K_skip ?_
          refine K_bn ?_
          refine K_tn ?_
          refine R_region ?_
          refine r_move rfl rfl rfl ?_
          first | refine r_addN rfl rfl rfl rfl (i64K (by omega) (by omega)) ?_ | refine r_add rfl rfl rfl rfl (i64K (by omega) (by omega)) ?_
          refine r_assign rfl rfl rfl ?_
          refine R_nil ?_
          refine K_tn ?_
          exact K_again (k + 1) (by exact ⟨by omega, fun j hj => by rcases Nat.lt_succ_iff_lt_or_eq.1 hj with h | h; exact hno j h; subst h; first | assumption | (simp [*, -List.getD_eq_getElem?_getD]; done)⟩) (by omega) (by repeat (first | exact trivial | refine ⟨rfl, ?_⟩)) (by repeat (first | exact .z | apply Rems.s Rem.z | apply Rems.s (Rem.s Rem.z) | apply Rems.s (Rem.s (Rem.s Rem.z)) | apply Rems.s (Rem.s (Rem.s (Rem.s Rem.z))) | apply Rems.s (Rem.s (Rem.s (Rem.s (Rem.s Rem.z)))) | apply Rems.s (Rem.s (Rem.s (Rem.s (Rem.s (Rem.s Rem.z))))) | apply Rems.s (Rem.s (Rem.s (Rem.s (Rem.s (Rem.s (Rem.s Rem.z)))))) | apply Rems.s (Rem.s (Rem.s (Rem.s (Rem.s (Rem.s (Rem.s (Rem.s Rem.z))))))) | apply Rems.s (Rem.s (Rem.s (Rem.s (Rem.s (Rem.s (Rem.s (Rem.s (Rem.s Rem.z)))))))) | apply Rems.s (Rem.s (Rem.s (Rem.s (Rem.s (Rem.s (Rem.s (Rem.s (Rem.s (Rem.s Rem.z)))))))))))
      · first
        | (exfalso; omega)
        |
          refine r_not rfl rfl rfl ?_
          refine R_nil ?_
          refine K_tn ?_
          refine K_cond_t rfl ?_
          refine K_seq ?_
          refine R_region ?_
          refine r_assign rfl rfl rfl ?_
          refine R_nil ?_
          refine K_tn ?_
          refine K_ret ?_
          refine K_br ?_
          refine K_tr ?_
          refine K_tr ?_
          refine K_br ?_
          refine K_tr ?_
          refine K_done (H' := []) rfl rfl (.s (.tmp rfl) .z) (by repeat (first | exact .z | apply Rems.s Rem.z | apply Rems.s (Rem.s Rem.z) | apply Rems.s (Rem.s (Rem.s Rem.z)) | apply Rems.s (Rem.s (Rem.s (Rem.s Rem.z))) | apply Rems.s (Rem.s (Rem.s (Rem.s (Rem.s Rem.z)))) | apply Rems.s (Rem.s (Rem.s (Rem.s (Rem.s (Rem.s Rem.z))))) | apply Rems.s (Rem.s (Rem.s (Rem.s (Rem.s (Rem.s (Rem.s Rem.z)))))) | apply Rems.s (Rem.s (Rem.s (Rem.s (Rem.s (Rem.s (Rem.s (Rem.s Rem.z))))))) | apply Rems.s (Rem.s (Rem.s (Rem.s (Rem.s (Rem.s (Rem.s (Rem.s (Rem.s Rem.z)))))))) | apply Rems.s (Rem.s (Rem.s (Rem.s (Rem.s (Rem.s (Rem.s (Rem.s (Rem.s (Rem.s Rem.z))))))))))) ?_
          refine ⟨?_, rfl⟩
          first | ((have ha : es.all validG = false := (by rw [← allN_all gz validG es, he]; exact allN_no (i := k) (by omega) (by first | assumption | (simp_all; done)))); unfold gCode; rw [ha]; first | done | rfl; done) | ((have ha : es.all validG = true := (by rw [← allN_all gz validG es, he]; exact allN_yes (fun i hi => hno i (by omega)))); unfold gCode; rw [ha, he]; simp [packV]; omega; done) | ((have ha : es.all validG = true := (by rw [← allN_all gz validG es, he]; exact allN_yes (fun i hi => hno i (by omega)))); unfold gCode; rw [ha, he]; simp [packV]; (intro _; omega); done)
  · first
    | (exfalso; omega)
    |
      refine R_nil ?_
      refine K_tn ?_
      refine K_cond_f rfl ?_
      refine K_exit ?_
      refine K_te ?_
      refine K_te ?_
      refine K_be ?_
      refine K_tn ?_
      refine K_seq ?_
      refine K_seq ?_
      refine R_region ?_
      refine r_move rfl rfl rfl ?_
      refine r_lenS sl_26 rfl rfl rfl ?_
      refine s_gtr rfl rfl rfl rfl (fun h18 => ?_) (fun h18 => ?_)
      · first
        | (exfalso; omega)
        |
          refine R_nil ?_
          refine K_tn ?_
          refine K_cond_t rfl ?_
          refine K_seq ?_
          refine R_region ?_
          refine r_assign rfl rfl rfl ?_
          refine R_nil ?_
          refine K_tn ?_
          refine K_ret ?_
          refine K_tr ?_
          refine K_done (H' := []) rfl rfl (.s (.tmp rfl) .z) (by repeat (first | exact .z | apply Rems.s Rem.z | apply Rems.s (Rem.s Rem.z) | apply Rems.s (Rem.s (Rem.s Rem.z)) | apply Rems.s (Rem.s (Rem.s (Rem.s Rem.z))) | apply Rems.s (Rem.s (Rem.s (Rem.s (Rem.s Rem.z)))) | apply Rems.s (Rem.s (Rem.s (Rem.s (Rem.s (Rem.s Rem.z))))) | apply Rems.s (Rem.s (Rem.s (Rem.s (Rem.s (Rem.s (Rem.s Rem.z)))))) | apply Rems.s (Rem.s (Rem.s (Rem.s (Rem.s (Rem.s (Rem.s (Rem.s Rem.z))))))) | apply Rems.s (Rem.s (Rem.s (Rem.s (Rem.s (Rem.s (Rem.s (Rem.s (Rem.s Rem.z)))))))) | apply Rems.s (Rem.s (Rem.s (Rem.s (Rem.s (Rem.s (Rem.s (Rem.s (Rem.s (Rem.s Rem.z))))))))))) ?_
          refine ⟨?_, rfl⟩
          first | ((have ha : es.all validG = false := (by rw [← allN_all gz validG es, he]; exact allN_no (i := k) (by omega) (by first | assumption | (simp_all; done)))); unfold gCode; rw [ha]; first | done | rfl; done) | ((have ha : es.all validG = true := (by rw [← allN_all gz validG es, he]; exact allN_yes (fun i hi => hno i (by omega)))); unfold gCode; rw [ha, he]; simp [packV]; omega; done) | ((have ha : es.all validG = true := (by rw [← allN_all gz validG es, he]; exact allN_yes (fun i hi => hno i (by omega)))); unfold gCode; rw [ha, he]; simp [packV]; (intro _; omega); done)
      · first
        | (exfalso; omega)
        |
          refine R_nil ?_
          refine K_tn ?_
          refine K_cond_f rfl ?_
          refine K_skip ?_
          refine K_tn ?_
          refine K_seq ?_
          refine R_region ?_
          refine r_assign rfl rfl rfl ?_
          refine R_nil ?_
          refine K_tn ?_
          refine K_ret ?_
          refine K_done (H' := []) rfl rfl (.s (.tmp rfl) .z) (by repeat (first | exact .z | apply Rems.s Rem.z | apply Rems.s (Rem.s Rem.z) | apply Rems.s (Rem.s (Rem.s Rem.z)) | apply Rems.s (Rem.s (Rem.s (Rem.s Rem.z))) | apply Rems.s (Rem.s (Rem.s (Rem.s (Rem.s Rem.z)))) | apply Rems.s (Rem.s (Rem.s (Rem.s (Rem.s (Rem.s Rem.z))))) | apply Rems.s (Rem.s (Rem.s (Rem.s (Rem.s (Rem.s (Rem.s Rem.z)))))) | apply Rems.s (Rem.s (Rem.s (Rem.s (Rem.s (Rem.s (Rem.s (Rem.s Rem.z))))))) | apply Rems.s (Rem.s (Rem.s (Rem.s (Rem.s (Rem.s (Rem.s (Rem.s (Rem.s Rem.z)))))))) | apply Rems.s (Rem.s (Rem.s (Rem.s (Rem.s (Rem.s (Rem.s (Rem.s (Rem.s (Rem.s Rem.z))))))))))) ?_
          refine ⟨?_, rfl⟩
          first | ((have ha : es.all validG = false := (by rw [← allN_all gz validG es, he]; exact allN_no (i := k) (by omega) (by first | assumption | (simp_all; done)))); unfold gCode; rw [ha]; first | done | rfl; done) | ((have ha : es.all validG = true := (by rw [← allN_all gz validG es, he]; exact allN_yes (fun i hi => hno i (by omega)))); unfold gCode; rw [ha, he]; simp [packV]; omega; done) | ((have ha : es.all validG = true := (by rw [← allN_all gz validG es, he]; exact allN_yes (fun i hi => hno i (by omega)))); unfold gCode; rw [ha, he]; simp [packV]; (intro _; omega); done)

set_option maxRecDepth 20000 in
theorem goodsCode1 (a : Gd) : SpecV Try.prog 125 [.agg (gd a).toArray] [] (.bool (!validG a)) := by
  refine spec_of Try.func125 rfl Try.ntmps125 rfl (fun w0 => ?_)
  refine K_seq ?_
  refine R_region ?_
  refine r_box rfl rfl rfl rfl (fun b1 => ?_)
  refine r_assign rfl rfl rfl ?_
  refine R_nil ?_
  refine K_tn ?_
  refine K_seq ?_
  refine R_region ?_
  refine r_loadA ag_98 sz_98 rfl rfl rfl (by first | exact .h .z | exact .h (.s .z) | exact .h (.s (.s .z)) | exact .h (.s (.s (.s .z))) | exact .h (.s (.s (.s (.s .z)))) | exact .h (.s (.s (.s (.s (.s .z))))) | exact .h (.s (.s (.s (.s (.s (.s .z)))))) | exact .h (.s (.s (.s (.s (.s (.s (.s .z))))))) | exact .h (.s (.s (.s (.s (.s (.s (.s (.s .z)))))))) | exact .x .z | exact .x (.s .z) | exact .x (.s (.s .z)) | exact .x (.s (.s (.s .z))) | exact .x (.s (.s (.s (.s .z)))) | exact .x (.s (.s (.s (.s (.s .z))))) | exact .x (.s (.s (.s (.s (.s (.s .z))))))) (by first | rfl) ?_
  refine r_callV cb_126 rfl rfl rfl rfl rfl (validGoodG _) (by repeat (first | exact .z | refine .s (.h .z) ?_ | refine .s (.h (.s .z)) ?_ | refine .s (.h (.s (.s .z))) ?_ | refine .s (.h (.s (.s (.s .z)))) ?_ | refine .s (.h (.s (.s (.s (.s .z))))) ?_ | refine .s (.h (.s (.s (.s (.s (.s .z)))))) ?_ | refine .s (.h (.s (.s (.s (.s (.s (.s .z))))))) ?_ | refine .s (.h (.s (.s (.s (.s (.s (.s (.s .z)))))))) ?_ | refine .s (.h (.s (.s (.s (.s (.s (.s (.s (.s .z))))))))) ?_ | refine .s (.x .z) ?_ | refine .s (.x (.s .z)) ?_ | refine .s (.x (.s (.s .z))) ?_ | refine .s (.x (.s (.s (.s .z)))) ?_ | refine .s (.x (.s (.s (.s (.s .z))))) ?_ | refine .s (.x (.s (.s (.s (.s (.s .z)))))) ?_ | refine .s (.x (.s (.s (.s (.s (.s (.s .z))))))) ?_)) ?_
  refine r_not rfl rfl rfl ?_
  refine r_assign rfl rfl rfl ?_
  refine R_nil ?_
  refine K_tn ?_
  refine K_ret ?_
  refine K_done (H' := []) rfl rfl (.s (.tmp rfl) .z) (by repeat (first | exact .z | apply Rems.s Rem.z | apply Rems.s (Rem.s Rem.z) | apply Rems.s (Rem.s (Rem.s Rem.z)) | apply Rems.s (Rem.s (Rem.s (Rem.s Rem.z))) | apply Rems.s (Rem.s (Rem.s (Rem.s (Rem.s Rem.z)))) | apply Rems.s (Rem.s (Rem.s (Rem.s (Rem.s (Rem.s Rem.z))))) | apply Rems.s (Rem.s (Rem.s (Rem.s (Rem.s (Rem.s (Rem.s Rem.z)))))) | apply Rems.s (Rem.s (Rem.s (Rem.s (Rem.s (Rem.s (Rem.s (Rem.s Rem.z))))))) | apply Rems.s (Rem.s (Rem.s (Rem.s (Rem.s (Rem.s (Rem.s (Rem.s (Rem.s Rem.z)))))))) | apply Rems.s (Rem.s (Rem.s (Rem.s (Rem.s (Rem.s (Rem.s (Rem.s (Rem.s (Rem.s Rem.z))))))))))) ?_
  refine ⟨?_, rfl⟩
  rfl

set_option maxRecDepth 20000 in
theorem goodsCode (b off len cap : Nat) (l : List Value) (u : TypeId) (fr : Nat × Nat) (es : List Gd) (he : es.length = len) (hl : ∀ i, i < len → takeAt l (off + i * 2) 2 = some (gd (es.getD i gz))) (hb : len ≤ 9223372036854775807) : SpecV Try.prog 76 [.slice (some ⟨b, off, none⟩) len cap] [(b, .cells l.toArray u fr)] (.int .i64 (gCode es)) := by
  refine spec_of Try.func76 rfl Try.ntmps76 rfl (fun w0 => ?_)
  have hna := not_any (fun a => !validG a) es
  simp only [Bool.not_not] at hna
  change _ = es.all validG at hna
  refine K_seq ?_
  refine R_region ?_
  refine r_assign rfl rfl rfl ?_
  refine R_nil ?_
  refine K_tn ?_
  refine K_seq ?_
  refine K_block ?_
  refine K_seq ?_
  refine R_region ?_
  refine r_move rfl rfl rfl ?_
  refine s_callV cb_124 rfl rfl rfl rfl rfl (containsFuncGood _ _ _ _ _ _ _ _ he hl 125 [] [] [] (fun a => !validG a) cb_125 goodsCode1 hb) (by repeat (first | exact .z | refine .s (.h .z) ?_ | refine .s (.h (.s .z)) ?_ | refine .s (.h (.s (.s .z))) ?_ | refine .s (.h (.s (.s (.s .z)))) ?_ | refine .s (.h (.s (.s (.s (.s .z))))) ?_ | refine .s (.h (.s (.s (.s (.s (.s .z)))))) ?_ | refine .s (.h (.s (.s (.s (.s (.s (.s .z))))))) ?_ | refine .s (.h (.s (.s (.s (.s (.s (.s (.s .z)))))))) ?_ | refine .s (.h (.s (.s (.s (.s (.s (.s (.s (.s .z))))))))) ?_ | refine .s (.x .z) ?_ | refine .s (.x (.s .z)) ?_ | refine .s (.x (.s (.s .z))) ?_ | refine .s (.x (.s (.s (.s .z)))) ?_ | refine .s (.x (.s (.s (.s (.s .z))))) ?_ | refine .s (.x (.s (.s (.s (.s (.s .z)))))) ?_ | refine .s (.x (.s (.s (.s (.s (.s (.s .z))))))) ?_)) (fun h5 => ?_) (fun h5 => ?_)
  · first
    | (exfalso; omega)
    |
      refine r_assign rfl rfl rfl ?_
      refine R_nil ?_
      refine K_tn ?_
      refine K_cond_t rfl ?_
      refine K_seq ?_
      refine R_region ?_
      refine r_assign rfl rfl rfl ?_
      refine R_nil ?_
      refine K_tn ?_
      refine K_ret ?_
      refine K_br ?_
      refine K_tr ?_
      refine K_done (H' := []) rfl rfl (.s (.tmp rfl) .z) (by repeat (first | exact .z | apply Rems.s Rem.z | apply Rems.s (Rem.s Rem.z) | apply Rems.s (Rem.s (Rem.s Rem.z)) | apply Rems.s (Rem.s (Rem.s (Rem.s Rem.z))) | apply Rems.s (Rem.s (Rem.s (Rem.s (Rem.s Rem.z)))) | apply Rems.s (Rem.s (Rem.s (Rem.s (Rem.s (Rem.s Rem.z))))) | apply Rems.s (Rem.s (Rem.s (Rem.s (Rem.s (Rem.s (Rem.s Rem.z)))))) | apply Rems.s (Rem.s (Rem.s (Rem.s (Rem.s (Rem.s (Rem.s (Rem.s Rem.z))))))) | apply Rems.s (Rem.s (Rem.s (Rem.s (Rem.s (Rem.s (Rem.s (Rem.s (Rem.s Rem.z)))))))) | apply Rems.s (Rem.s (Rem.s (Rem.s (Rem.s (Rem.s (Rem.s (Rem.s (Rem.s (Rem.s Rem.z))))))))))) ?_
      refine ⟨?_, rfl⟩
      first | ((have ha : es.all validG = false := (by rw [← hna, h5]; rfl)); unfold gCode; rw [ha]; first | done | rfl; done) | ((have ha : es.all validG = true := (by rw [← hna, h5]; rfl)); unfold gCode; rw [ha, he]; simp [packV]; omega; done) | ((have ha : es.all validG = true := (by rw [← hna, h5]; rfl)); unfold gCode; rw [ha, he]; simp [packV]; (intro _; omega); done)
  · first
    | (exfalso; omega)
    |
      refine r_assign rfl rfl rfl ?_
      refine R_nil ?_
      refine K_tn ?_
      refine K_cond_f rfl ?_
      refine K_seq ?_
      refine R_region ?_
      refine r_move rfl rfl rfl ?_
      refine r_lenS sl_26 rfl rfl rfl ?_
      refine s_gtr rfl rfl rfl rfl (fun h9 => ?_) (fun h9 => ?_)
      · first
        | (exfalso; omega)
        |
          refine r_assign rfl rfl rfl ?_
          refine R_nil ?_
          refine K_tn ?_
          refine K_cond_t rfl ?_
          refine K_seq ?_
          refine R_region ?_
          refine r_assign rfl rfl rfl ?_
          refine R_nil ?_
          refine K_tn ?_
          refine K_ret ?_
          refine K_br ?_
          refine K_tr ?_
          refine K_done (H' := []) rfl rfl (.s (.tmp rfl) .z) (by repeat (first | exact .z | apply Rems.s Rem.z | apply Rems.s (Rem.s Rem.z) | apply Rems.s (Rem.s (Rem.s Rem.z)) | apply Rems.s (Rem.s (Rem.s (Rem.s Rem.z))) | apply Rems.s (Rem.s (Rem.s (Rem.s (Rem.s Rem.z)))) | apply Rems.s (Rem.s (Rem.s (Rem.s (Rem.s (Rem.s Rem.z))))) | apply Rems.s (Rem.s (Rem.s (Rem.s (Rem.s (Rem.s (Rem.s Rem.z)))))) | apply Rems.s (Rem.s (Rem.s (Rem.s (Rem.s (Rem.s (Rem.s (Rem.s Rem.z))))))) | apply Rems.s (Rem.s (Rem.s (Rem.s (Rem.s (Rem.s (Rem.s (Rem.s (Rem.s Rem.z)))))))) | apply Rems.s (Rem.s (Rem.s (Rem.s (Rem.s (Rem.s (Rem.s (Rem.s (Rem.s (Rem.s Rem.z))))))))))) ?_
          refine ⟨?_, rfl⟩
          first | ((have ha : es.all validG = false := (by rw [← hna, h5]; rfl)); unfold gCode; rw [ha]; first | done | rfl; done) | ((have ha : es.all validG = true := (by rw [← hna, h5]; rfl)); unfold gCode; rw [ha, he]; simp [packV]; omega; done) | ((have ha : es.all validG = true := (by rw [← hna, h5]; rfl)); unfold gCode; rw [ha, he]; simp [packV]; (intro _; omega); done)
      · first
        | (exfalso; omega)
        |
          refine r_assign rfl rfl rfl ?_
          refine R_nil ?_
          refine K_tn ?_
          refine K_cond_f rfl ?_
          refine K_skip ?_
          refine K_bn ?_
          refine K_tn ?_
          refine K_seq ?_
          refine R_region ?_
          refine r_assign rfl rfl rfl ?_
          refine R_nil ?_
          refine K_tn ?_
          refine K_ret ?_
          refine K_done (H' := []) rfl rfl (.s (.tmp rfl) .z) (by repeat (first | exact .z | apply Rems.s Rem.z | apply Rems.s (Rem.s Rem.z) | apply Rems.s (Rem.s (Rem.s Rem.z)) | apply Rems.s (Rem.s (Rem.s (Rem.s Rem.z))) | apply Rems.s (Rem.s (Rem.s (Rem.s (Rem.s Rem.z)))) | apply Rems.s (Rem.s (Rem.s (Rem.s (Rem.s (Rem.s Rem.z))))) | apply Rems.s (Rem.s (Rem.s (Rem.s (Rem.s (Rem.s (Rem.s Rem.z)))))) | apply Rems.s (Rem.s (Rem.s (Rem.s (Rem.s (Rem.s (Rem.s (Rem.s Rem.z))))))) | apply Rems.s (Rem.s (Rem.s (Rem.s (Rem.s (Rem.s (Rem.s (Rem.s (Rem.s Rem.z)))))))) | apply Rems.s (Rem.s (Rem.s (Rem.s (Rem.s (Rem.s (Rem.s (Rem.s (Rem.s (Rem.s Rem.z))))))))))) ?_
          refine ⟨?_, rfl⟩
          first | ((have ha : es.all validG = false := (by rw [← hna, h5]; rfl)); unfold gCode; rw [ha]; first | done | rfl; done) | ((have ha : es.all validG = true := (by rw [← hna, h5]; rfl)); unfold gCode; rw [ha, he]; simp [packV]; omega; done) | ((have ha : es.all validG = true := (by rw [← hna, h5]; rfl)); unfold gCode; rw [ha, he]; simp [packV]; (intro _; omega); done)

set_option maxRecDepth 20000 in
theorem l04Share (b off len cap : Nat) (l : List Value) (u : TypeId) (fr : Nat × Nat) (es : List Gd) (he : es.length = len) (hl : ∀ i, i < len → takeAt l (off + i * 2) 2 = some (gd (es.getD i gz))) (hv : es.all validG = true) (hb : len ≤ 9223372036854775807) : SpecV Try.prog 74 [.slice (some ⟨b, off, none⟩) len cap] [(b, .cells l.toArray u fr)] (.bool (shareG es)) := by
  refine spec_of Try.func74 rfl Try.ntmps74 rfl (fun w0 => ?_)
  have hl0 : ∀ i, i < len → l[off + i * 2 + 0]? = some (.float .f32 (es.getD i gz).1) := fun i hi => take_get (hl i hi) (by decide)
  have hl1 : ∀ i, i < len → l[off + i * 2 + 1]? = some (.float .f32 (es.getD i gz).2) := fun i hi => take_get (hl i hi) (by decide)
  refine K_seq ?_
  refine R_region ?_
  refine r_assign rfl rfl rfl ?_
  refine R_nil ?_
  refine K_tn ?_
  refine K_seq ?_
  refine R_region ?_
  refine r_assign rfl rfl rfl ?_
  refine R_nil ?_
  refine K_tn ?_
  refine K_seq ?_
  refine K_seq ?_
  refine R_region ?_
  refine r_assign rfl rfl rfl ?_
  refine R_nil ?_
  refine K_tn ?_
  refine K_block ?_
  refine K_loop (fun (k : Nat) => k ≤ len) (fun k => [(0, .slice (some ⟨b, off, none⟩) len cap), (3, .float .f32 (sumG es k)), (4, .int .i64 (k : Int))]) (fun _ => []) (fun k => len - k) 0 (by omega) (by repeat (first | exact trivial | refine ⟨rfl, ?_⟩)) (by repeat (first | exact .z | apply Rems.s Rem.z | apply Rems.s (Rem.s Rem.z) | apply Rems.s (Rem.s (Rem.s Rem.z)) | apply Rems.s (Rem.s (Rem.s (Rem.s Rem.z))) | apply Rems.s (Rem.s (Rem.s (Rem.s (Rem.s Rem.z)))) | apply Rems.s (Rem.s (Rem.s (Rem.s (Rem.s (Rem.s Rem.z))))) | apply Rems.s (Rem.s (Rem.s (Rem.s (Rem.s (Rem.s (Rem.s Rem.z)))))) | apply Rems.s (Rem.s (Rem.s (Rem.s (Rem.s (Rem.s (Rem.s (Rem.s Rem.z))))))) | apply Rems.s (Rem.s (Rem.s (Rem.s (Rem.s (Rem.s (Rem.s (Rem.s (Rem.s Rem.z)))))))) | apply Rems.s (Rem.s (Rem.s (Rem.s (Rem.s (Rem.s (Rem.s (Rem.s (Rem.s (Rem.s Rem.z))))))))))) (fun k hp => ?_)
  refine K_seq ?_
  refine K_seq ?_
  refine R_region ?_
  refine r_move rfl rfl rfl ?_
  refine r_move rfl rfl rfl ?_
  refine r_lenS sl_26 rfl rfl rfl ?_
  refine s_lss rfl rfl rfl rfl (fun h9 => ?_) (fun h9 => ?_)
  · first
    | (exfalso; omega)
    |
      refine R_nil ?_
      refine K_tn ?_
      refine K_cond_t rfl ?_
      refine K_skip ?_
      refine K_tn ?_
      refine K_seq ?_
      refine K_block ?_
      refine R_region ?_
      refine r_move rfl rfl rfl ?_
      refine r_move rfl rfl rfl ?_
      refine r_move rfl rfl rfl ?_
      refine r_indexS sl_26 sz_98 rfl rfl rfl rfl (by omega) ?_
      refine r_fieldAddr fd_98_0 rfl rfl rfl ?_
      refine r_load ag_41 rfl rfl rfl (by first | exact .h .z | exact .h (.s .z) | exact .h (.s (.s .z)) | exact .h (.s (.s (.s .z))) | exact .h (.s (.s (.s (.s .z)))) | exact .h (.s (.s (.s (.s (.s .z))))) | exact .h (.s (.s (.s (.s (.s (.s .z)))))) | exact .h (.s (.s (.s (.s (.s (.s (.s .z))))))) | exact .h (.s (.s (.s (.s (.s (.s (.s (.s .z)))))))) | exact .x .z | exact .x (.s .z) | exact .x (.s (.s .z)) | exact .x (.s (.s (.s .z))) | exact .x (.s (.s (.s (.s .z)))) | exact .x (.s (.s (.s (.s (.s .z))))) | exact .x (.s (.s (.s (.s (.s (.s .z))))))) (by first | rfl | exact hl _ (by omega) | exact hl0 _ (by omega) | exact hl1 _ (by omega)) ?_
      refine r_fl rfl rfl rfl rfl (sumG_add hv (by omega)) ?_
      refine r_assign rfl rfl rfl ?_
      refine R_nil ?_
      refine K_bn ?_
      refine K_tn ?_
      refine R_region ?_
      refine r_move rfl rfl rfl ?_
      first | refine r_addN rfl rfl rfl rfl (i64K (by omega) (by omega)) ?_ | refine r_add rfl rfl rfl rfl (i64K (by omega) (by omega)) ?_
      refine r_assign rfl rfl rfl ?_
      refine R_nil ?_
      refine K_tn ?_
      exact K_again (k + 1) (by omega) (by omega) (by repeat (first | exact trivial | refine ⟨rfl, ?_⟩)) (by repeat (first | exact .z | apply Rems.s Rem.z | apply Rems.s (Rem.s Rem.z) | apply Rems.s (Rem.s (Rem.s Rem.z)) | apply Rems.s (Rem.s (Rem.s (Rem.s Rem.z))) | apply Rems.s (Rem.s (Rem.s (Rem.s (Rem.s Rem.z)))) | apply Rems.s (Rem.s (Rem.s (Rem.s (Rem.s (Rem.s Rem.z))))) | apply Rems.s (Rem.s (Rem.s (Rem.s (Rem.s (Rem.s (Rem.s Rem.z)))))) | apply Rems.s (Rem.s (Rem.s (Rem.s (Rem.s (Rem.s (Rem.s (Rem.s Rem.z))))))) | apply Rems.s (Rem.s (Rem.s (Rem.s (Rem.s (Rem.s (Rem.s (Rem.s (Rem.s Rem.z)))))))) | apply Rems.s (Rem.s (Rem.s (Rem.s (Rem.s (Rem.s (Rem.s (Rem.s (Rem.s (Rem.s Rem.z)))))))))))
  · first
    | (exfalso; omega)
    |
      refine R_nil ?_
      refine K_tn ?_
      refine K_cond_f rfl ?_
      refine K_exit ?_
      refine K_te ?_
      refine K_te ?_
      refine K_be ?_
      refine K_tn ?_
      refine K_seq ?_
      refine K_seq ?_
      refine R_region ?_
      have hk : len = k := by omega
      subst hk
      refine r_assign rfl rfl rfl ?_
      refine R_nil ?_
      refine K_tn ?_
      refine K_block ?_
      refine K_loop (fun (k : Nat) => k ≤ len ∧ ∀ j, j < k → (!flt (es.getD j gz).2 (sumG es len)) = true) (fun k => [(0, .slice (some ⟨b, off, none⟩) len cap), (3, .float .f32 (sumG es len)), (5, .int .i64 (k : Int))]) (fun _ => []) (fun k => len - k) 0 (by exact ⟨Nat.zero_le _, fun j hj => absurd hj (Nat.not_lt_zero _)⟩) (by repeat (first | exact trivial | refine ⟨rfl, ?_⟩)) (by repeat (first | exact .z | apply Rems.s Rem.z | apply Rems.s (Rem.s Rem.z) | apply Rems.s (Rem.s (Rem.s Rem.z)) | apply Rems.s (Rem.s (Rem.s (Rem.s Rem.z))) | apply Rems.s (Rem.s (Rem.s (Rem.s (Rem.s Rem.z)))) | apply Rems.s (Rem.s (Rem.s (Rem.s (Rem.s (Rem.s Rem.z))))) | apply Rems.s (Rem.s (Rem.s (Rem.s (Rem.s (Rem.s (Rem.s Rem.z)))))) | apply Rems.s (Rem.s (Rem.s (Rem.s (Rem.s (Rem.s (Rem.s (Rem.s Rem.z))))))) | apply Rems.s (Rem.s (Rem.s (Rem.s (Rem.s (Rem.s (Rem.s (Rem.s (Rem.s Rem.z)))))))) | apply Rems.s (Rem.s (Rem.s (Rem.s (Rem.s (Rem.s (Rem.s (Rem.s (Rem.s (Rem.s Rem.z))))))))))) (fun k hp => ?_)
      obtain ⟨hk, hno⟩ := hp
      refine K_seq ?_
      refine K_seq ?_
      refine R_region ?_
      refine r_move rfl rfl rfl ?_
      refine r_move rfl rfl rfl ?_
      refine r_lenS sl_26 rfl rfl rfl ?_
      refine s_lss rfl rfl rfl rfl (fun h22 => ?_) (fun h22 => ?_)
      · first
        | (exfalso; omega)
        |
          refine R_nil ?_
          refine K_tn ?_
          refine K_cond_t rfl ?_
          refine K_skip ?_
          refine K_tn ?_
          refine K_seq ?_
          refine K_block ?_
          refine K_seq ?_
          refine R_region ?_
          refine r_move rfl rfl rfl ?_
          refine r_move rfl rfl rfl ?_
          refine r_move rfl rfl rfl ?_
          refine r_indexS sl_26 sz_98 rfl rfl rfl rfl (by omega) ?_
          refine r_fieldAddr fd_98_1 rfl rfl rfl ?_
          refine r_load ag_41 rfl rfl rfl (by first | exact .h .z | exact .h (.s .z) | exact .h (.s (.s .z)) | exact .h (.s (.s (.s .z))) | exact .h (.s (.s (.s (.s .z)))) | exact .h (.s (.s (.s (.s (.s .z))))) | exact .h (.s (.s (.s (.s (.s (.s .z)))))) | exact .h (.s (.s (.s (.s (.s (.s (.s .z))))))) | exact .h (.s (.s (.s (.s (.s (.s (.s (.s .z)))))))) | exact .x .z | exact .x (.s .z) | exact .x (.s (.s .z)) | exact .x (.s (.s (.s .z))) | exact .x (.s (.s (.s (.s .z)))) | exact .x (.s (.s (.s (.s (.s .z))))) | exact .x (.s (.s (.s (.s (.s (.s .z))))))) (by first | rfl | exact hl _ (by omega) | exact hl0 _ (by omega) | exact hl1 _ (by omega)) ?_
          refine s_fcmp rfl rfl rfl rfl (fun _ _ => run_fgt) (fun h31 => ?_) (fun h31 => ?_)
          · first
            | (exfalso; omega)
            |
              refine R_nil ?_
              refine K_tn ?_
              refine K_cond_t rfl ?_
              refine K_seq ?_
              refine R_region ?_
              refine r_assign rfl rfl rfl ?_
              refine R_nil ?_
              refine K_tn ?_
              refine K_ret ?_
              refine K_br ?_
              refine K_tr ?_
              refine K_tr ?_
              refine K_br ?_
              refine K_tr ?_
              refine K_done (H' := []) rfl rfl (.s (.tmp rfl) .z) (by repeat (first | exact .z | apply Rems.s Rem.z | apply Rems.s (Rem.s Rem.z) | apply Rems.s (Rem.s (Rem.s Rem.z)) | apply Rems.s (Rem.s (Rem.s (Rem.s Rem.z))) | apply Rems.s (Rem.s (Rem.s (Rem.s (Rem.s Rem.z)))) | apply Rems.s (Rem.s (Rem.s (Rem.s (Rem.s (Rem.s Rem.z))))) | apply Rems.s (Rem.s (Rem.s (Rem.s (Rem.s (Rem.s (Rem.s Rem.z)))))) | apply Rems.s (Rem.s (Rem.s (Rem.s (Rem.s (Rem.s (Rem.s (Rem.s Rem.z))))))) | apply Rems.s (Rem.s (Rem.s (Rem.s (Rem.s (Rem.s (Rem.s (Rem.s (Rem.s Rem.z)))))))) | apply Rems.s (Rem.s (Rem.s (Rem.s (Rem.s (Rem.s (Rem.s (Rem.s (Rem.s (Rem.s Rem.z))))))))))) ?_
              refine ⟨?_, rfl⟩
              first | (exact congrArg Value.bool (by unfold shareG; rw [he]; exact (allN_no (i := k) (by omega) (by simp [*, -List.getD_eq_getElem?_getD])).symm); done) | (exact congrArg Value.bool (by unfold shareG; rw [he]; exact (allN_yes (fun i hi => hno i (by omega))).symm); done)
          · first
            | (exfalso; omega)
            |
              refine R_nil ?_
              refine K_tn ?_
              refine K_cond_f rfl ?_
              refine K_skip ?_
              refine K_bn ?_
              refine K_tn ?_
              refine R_region ?_
              refine r_move rfl rfl rfl ?_
              first | refine r_addN rfl rfl rfl rfl (i64K (by omega) (by omega)) ?_ | refine r_add rfl rfl rfl rfl (i64K (by omega) (by omega)) ?_
              refine r_assign rfl rfl rfl ?_
              refine R_nil ?_
              refine K_tn ?_
              exact K_again (k + 1) (by exact ⟨by omega, fun j hj => by rcases Nat.lt_succ_iff_lt_or_eq.1 hj with h | h; exact hno j h; subst h; first | assumption | (simp [*, -List.getD_eq_getElem?_getD]; done)⟩) (by omega) (by repeat (first | exact trivial | refine ⟨rfl, ?_⟩)) (by repeat (first | exact .z | apply Rems.s Rem.z | apply Rems.s (Rem.s Rem.z) | apply Rems.s (Rem.s (Rem.s Rem.z)) | apply Rems.s (Rem.s (Rem.s (Rem.s Rem.z))) | apply Rems.s (Rem.s (Rem.s (Rem.s (Rem.s Rem.z)))) | apply Rems.s (Rem.s (Rem.s (Rem.s (Rem.s (Rem.s Rem.z))))) | apply Rems.s (Rem.s (Rem.s (Rem.s (Rem.s (Rem.s (Rem.s Rem.z)))))) | apply Rems.s (Rem.s (Rem.s (Rem.s (Rem.s (Rem.s (Rem.s (Rem.s Rem.z))))))) | apply Rems.s (Rem.s (Rem.s (Rem.s (Rem.s (Rem.s (Rem.s (Rem.s (Rem.s Rem.z)))))))) | apply Rems.s (Rem.s (Rem.s (Rem.s (Rem.s (Rem.s (Rem.s (Rem.s (Rem.s (Rem.s Rem.z)))))))))))
      · first
        | (exfalso; omega)
        |
          refine R_nil ?_
          refine K_tn ?_
          refine K_cond_f rfl ?_
          refine K_exit ?_
          refine K_te ?_
          refine K_te ?_
          refine K_be ?_
          refine K_tn ?_
          refine K_seq ?_
          refine R_region ?_
          refine r_assign rfl rfl rfl ?_
          refine R_nil ?_
          refine K_tn ?_
          refine K_ret ?_
          refine K_done (H' := []) rfl rfl (.s (.tmp rfl) .z) (by repeat (first | exact .z | apply Rems.s Rem.z | apply Rems.s (Rem.s Rem.z) | apply Rems.s (Rem.s (Rem.s Rem.z)) | apply Rems.s (Rem.s (Rem.s (Rem.s Rem.z))) | apply Rems.s (Rem.s (Rem.s (Rem.s (Rem.s Rem.z)))) | apply Rems.s (Rem.s (Rem.s (Rem.s (Rem.s (Rem.s Rem.z))))) | apply Rems.s (Rem.s (Rem.s (Rem.s (Rem.s (Rem.s (Rem.s Rem.z)))))) | apply Rems.s (Rem.s (Rem.s (Rem.s (Rem.s (Rem.s (Rem.s (Rem.s Rem.z))))))) | apply Rems.s (Rem.s (Rem.s (Rem.s (Rem.s (Rem.s (Rem.s (Rem.s (Rem.s Rem.z)))))))) | apply Rems.s (Rem.s (Rem.s (Rem.s (Rem.s (Rem.s (Rem.s (Rem.s (Rem.s (Rem.s Rem.z))))))))))) ?_
          refine ⟨?_, rfl⟩
          first | (exact congrArg Value.bool (by unfold shareG; rw [he]; exact (allN_no (i := k) (by omega) (by simp [*, -List.getD_eq_getElem?_getD])).symm); done) | (exact congrArg Value.bool (by unfold shareG; rw [he]; exact (allN_yes (fun i hi => hno i (by omega))).symm); done)

set_option maxRecDepth 20000 in
theorem mayShare1 (b s : Nat) (u : TypeId) (fr : Nat × Nat) (a : Gd) : SpecV Try.prog 127 [.agg (gd a).toArray, .pointer (some ⟨b, 0, none⟩)] [(b, .cells [.float .f32 s].toArray u fr)] (.bool (flt a.2 s)) := by
  refine spec_of Try.func127 rfl Try.ntmps127 rfl (fun w0 => ?_)
  refine K_seq ?_
  refine R_region ?_
  refine r_box rfl rfl rfl rfl (fun b2 => ?_)
  refine r_assign rfl rfl rfl ?_
  refine R_nil ?_
  refine K_tn ?_
  refine K_seq ?_
  refine R_region ?_
  refine r_load ag_41 rfl rfl rfl (by first | exact .h .z | exact .h (.s .z) | exact .h (.s (.s .z)) | exact .h (.s (.s (.s .z))) | exact .h (.s (.s (.s (.s .z)))) | exact .h (.s (.s (.s (.s (.s .z))))) | exact .h (.s (.s (.s (.s (.s (.s .z)))))) | exact .h (.s (.s (.s (.s (.s (.s (.s .z))))))) | exact .h (.s (.s (.s (.s (.s (.s (.s (.s .z)))))))) | exact .x .z | exact .x (.s .z) | exact .x (.s (.s .z)) | exact .x (.s (.s (.s .z))) | exact .x (.s (.s (.s (.s .z)))) | exact .x (.s (.s (.s (.s (.s .z))))) | exact .x (.s (.s (.s (.s (.s (.s .z))))))) (by first | rfl) ?_
  refine r_fieldAddr fd_98_1 rfl rfl rfl ?_
  refine r_load ag_41 rfl rfl rfl (by first | exact .h .z | exact .h (.s .z) | exact .h (.s (.s .z)) | exact .h (.s (.s (.s .z))) | exact .h (.s (.s (.s (.s .z)))) | exact .h (.s (.s (.s (.s (.s .z))))) | exact .h (.s (.s (.s (.s (.s (.s .z)))))) | exact .h (.s (.s (.s (.s (.s (.s (.s .z))))))) | exact .h (.s (.s (.s (.s (.s (.s (.s (.s .z)))))))) | exact .x .z | exact .x (.s .z) | exact .x (.s (.s .z)) | exact .x (.s (.s (.s .z))) | exact .x (.s (.s (.s (.s .z)))) | exact .x (.s (.s (.s (.s (.s .z))))) | exact .x (.s (.s (.s (.s (.s (.s .z))))))) (by first | rfl) ?_
  refine v_fcmp rfl rfl rfl rfl (fun _ _ => run_fgt) ?_
  refine r_assign rfl rfl rfl ?_
  refine R_nil ?_
  refine K_tn ?_
  refine K_ret ?_
  refine K_done (H' := []) rfl rfl (.s (.tmp rfl) .z) (by repeat (first | exact .z | apply Rems.s Rem.z | apply Rems.s (Rem.s Rem.z) | apply Rems.s (Rem.s (Rem.s Rem.z)) | apply Rems.s (Rem.s (Rem.s (Rem.s Rem.z))) | apply Rems.s (Rem.s (Rem.s (Rem.s (Rem.s Rem.z)))) | apply Rems.s (Rem.s (Rem.s (Rem.s (Rem.s (Rem.s Rem.z))))) | apply Rems.s (Rem.s (Rem.s (Rem.s (Rem.s (Rem.s (Rem.s Rem.z)))))) | apply Rems.s (Rem.s (Rem.s (Rem.s (Rem.s (Rem.s (Rem.s (Rem.s Rem.z))))))) | apply Rems.s (Rem.s (Rem.s (Rem.s (Rem.s (Rem.s (Rem.s (Rem.s (Rem.s Rem.z)))))))) | apply Rems.s (Rem.s (Rem.s (Rem.s (Rem.s (Rem.s (Rem.s (Rem.s (Rem.s (Rem.s Rem.z))))))))))) ?_
  refine ⟨?_, rfl⟩
  rfl

set_option maxRecDepth 20000 in
theorem mayShareI (b off len cap : Nat) (l : List Value) (u : TypeId) (fr : Nat × Nat) (es : List Gd) (he : es.length = len) (hl : ∀ i, i < len → takeAt l (off + i * 2) 2 = some (gd (es.getD i gz))) (hv : es.all validG = true) (hb : len ≤ 9223372036854775807) : SpecV Try.prog 77 [.slice (some ⟨b, off, none⟩) len cap] [(b, .cells l.toArray u fr)] (.bool (shareG es)) := by
  refine spec_of Try.func77 rfl Try.ntmps77 rfl (fun w0 => ?_)
  have hl0 : ∀ i, i < len → l[off + i * 2 + 0]? = some (.float .f32 (es.getD i gz).1) := fun i hi => take_get (hl i hi) (by decide)
  have hl1 : ∀ i, i < len → l[off + i * 2 + 1]? = some (.float .f32 (es.getD i gz).2) := fun i hi => take_get (hl i hi) (by decide)
  refine K_seq ?_
  refine R_region ?_
  refine r_assign rfl rfl rfl ?_
  refine R_nil ?_
  refine K_tn ?_
  refine K_seq ?_
  refine R_region ?_
  refine r_alloc zr_41 rfl rfl (fun b3 => ?_)
  refine r_store sz_41 rfl rfl rfl rfl (by first | exact .z | exact (.s .z) | exact (.s (.s .z)) | exact (.s (.s (.s .z))) | exact (.s (.s (.s (.s .z)))) | exact (.s (.s (.s (.s (.s .z))))) | exact (.s (.s (.s (.s (.s (.s .z)))))) | exact (.s (.s (.s (.s (.s (.s (.s .z))))))) | exact (.s (.s (.s (.s (.s (.s (.s (.s .z)))))))) | exact (.s (.s (.s (.s (.s (.s (.s (.s (.s .z)))))))))) (by first | rfl) ?_
  refine R_nil ?_
  refine K_tn ?_
  refine K_seq ?_
  refine K_seq ?_
  refine R_region ?_
  refine r_move rfl rfl rfl ?_
  refine r_lenS sl_26 rfl rfl rfl ?_
  refine r_move rfl rfl rfl ?_
  refine R_nil ?_
  refine K_tn ?_
  refine K_block ?_
  refine K_loop (fun (k : Nat) => k ≤ len) (fun k => [(0, .slice (some ⟨b, off, none⟩) len cap), (3, .pointer (some ⟨b3, 0, none⟩)), (6, .slice (some ⟨b, off, none⟩) len cap), (7, .int .i64 (len : Int)), (8, .int .i64 (k : Int))]) (fun k => [(b3, .cells [Value.float .f32 (sumG es k)].toArray 41 (0, 0))]) (fun k => len - k) 0 (by omega) (by repeat (first | exact trivial | refine ⟨rfl, ?_⟩)) (by repeat (first | exact .z | apply Rems.s Rem.z | apply Rems.s (Rem.s Rem.z) | apply Rems.s (Rem.s (Rem.s Rem.z)) | apply Rems.s (Rem.s (Rem.s (Rem.s Rem.z))) | apply Rems.s (Rem.s (Rem.s (Rem.s (Rem.s Rem.z)))) | apply Rems.s (Rem.s (Rem.s (Rem.s (Rem.s (Rem.s Rem.z))))) | apply Rems.s (Rem.s (Rem.s (Rem.s (Rem.s (Rem.s (Rem.s Rem.z)))))) | apply Rems.s (Rem.s (Rem.s (Rem.s (Rem.s (Rem.s (Rem.s (Rem.s Rem.z))))))) | apply Rems.s (Rem.s (Rem.s (Rem.s (Rem.s (Rem.s (Rem.s (Rem.s (Rem.s Rem.z)))))))) | apply Rems.s (Rem.s (Rem.s (Rem.s (Rem.s (Rem.s (Rem.s (Rem.s (Rem.s (Rem.s Rem.z))))))))))) (fun k hp => ?_)
  refine K_seq ?_
  refine R_region ?_
  refine s_lss rfl rfl rfl rfl (fun h9 => ?_) (fun h9 => ?_)
  · first
    | (exfalso; omega)
    |
      refine R_nil ?_
      refine K_tn ?_
      refine K_seq ?_
      refine K_cond_t rfl ?_
      refine K_skip ?_
      refine K_tn ?_
      refine K_seq ?_
      refine K_block ?_
      refine K_seq ?_
      refine R_region ?_
      refine r_indexS sl_26 sz_98 rfl rfl rfl rfl (by omega) ?_
      refine r_loadA ag_98 sz_98 rfl rfl rfl (by first | exact .h .z | exact .h (.s .z) | exact .h (.s (.s .z)) | exact .h (.s (.s (.s .z))) | exact .h (.s (.s (.s (.s .z)))) | exact .h (.s (.s (.s (.s (.s .z))))) | exact .h (.s (.s (.s (.s (.s (.s .z)))))) | exact .h (.s (.s (.s (.s (.s (.s (.s .z))))))) | exact .h (.s (.s (.s (.s (.s (.s (.s (.s .z)))))))) | exact .x .z | exact .x (.s .z) | exact .x (.s (.s .z)) | exact .x (.s (.s (.s .z))) | exact .x (.s (.s (.s (.s .z)))) | exact .x (.s (.s (.s (.s (.s .z))))) | exact .x (.s (.s (.s (.s (.s (.s .z))))))) (by first | rfl | exact hl _ (by omega) | exact hl0 _ (by omega) | exact hl1 _ (by omega)) ?_
      refine r_alloc zr_98 rfl rfl (fun b5 => ?_)
      refine r_storeA sz_98 rfl rfl rfl (by first | rfl) (by first | rfl) (by first | exact .z | exact (.s .z) | exact (.s (.s .z)) | exact (.s (.s (.s .z))) | exact (.s (.s (.s (.s .z)))) | exact (.s (.s (.s (.s (.s .z))))) | exact (.s (.s (.s (.s (.s (.s .z)))))) | exact (.s (.s (.s (.s (.s (.s (.s .z))))))) | exact (.s (.s (.s (.s (.s (.s (.s (.s .z)))))))) | exact (.s (.s (.s (.s (.s (.s (.s (.s (.s .z)))))))))) (by first | rfl) ?_
      refine R_nil ?_
      refine K_tn ?_
      refine R_region ?_
      refine r_load ag_41 rfl rfl rfl (by first | exact .h .z | exact .h (.s .z) | exact .h (.s (.s .z)) | exact .h (.s (.s (.s .z))) | exact .h (.s (.s (.s (.s .z)))) | exact .h (.s (.s (.s (.s (.s .z))))) | exact .h (.s (.s (.s (.s (.s (.s .z)))))) | exact .h (.s (.s (.s (.s (.s (.s (.s .z))))))) | exact .h (.s (.s (.s (.s (.s (.s (.s (.s .z)))))))) | exact .x .z | exact .x (.s .z) | exact .x (.s (.s .z)) | exact .x (.s (.s (.s .z))) | exact .x (.s (.s (.s (.s .z)))) | exact .x (.s (.s (.s (.s (.s .z))))) | exact .x (.s (.s (.s (.s (.s (.s .z))))))) (by first | rfl | exact hl _ (by omega) | exact hl0 _ (by omega) | exact hl1 _ (by omega)) ?_
      refine r_fieldAddr fd_98_0 rfl rfl rfl ?_
      refine r_load ag_41 rfl rfl rfl (by first | exact .h .z | exact .h (.s .z) | exact .h (.s (.s .z)) | exact .h (.s (.s (.s .z))) | exact .h (.s (.s (.s (.s .z)))) | exact .h (.s (.s (.s (.s (.s .z))))) | exact .h (.s (.s (.s (.s (.s (.s .z)))))) | exact .h (.s (.s (.s (.s (.s (.s (.s .z))))))) | exact .h (.s (.s (.s (.s (.s (.s (.s (.s .z)))))))) | exact .x .z | exact .x (.s .z) | exact .x (.s (.s .z)) | exact .x (.s (.s (.s .z))) | exact .x (.s (.s (.s (.s .z)))) | exact .x (.s (.s (.s (.s (.s .z))))) | exact .x (.s (.s (.s (.s (.s (.s .z))))))) (by first | rfl | exact hl _ (by omega) | exact hl0 _ (by omega) | exact hl1 _ (by omega)) ?_
      refine r_fl rfl rfl rfl rfl (sumG_add hv (by omega)) ?_
      refine r_store sz_41 rfl rfl rfl rfl (by first | exact .z | exact (.s .z) | exact (.s (.s .z)) | exact (.s (.s (.s .z))) | exact (.s (.s (.s (.s .z)))) | exact (.s (.s (.s (.s (.s .z))))) | exact (.s (.s (.s (.s (.s (.s .z)))))) | exact (.s (.s (.s (.s (.s (.s (.s .z))))))) | exact (.s (.s (.s (.s (.s (.s (.s (.s .z)))))))) | exact (.s (.s (.s (.s (.s (.s (.s (.s (.s .z)))))))))) (by first | rfl) ?_
      refine R_nil ?_
      refine K_bn ?_
      refine K_tn ?_
      refine R_region ?_
      first | refine r_addN rfl rfl rfl rfl (i64K (by omega) (by omega)) ?_ | refine r_add rfl rfl rfl rfl (i64K (by omega) (by omega)) ?_
      refine r_move rfl rfl rfl ?_
      refine R_nil ?_
      refine K_tn ?_
      exact K_again (k + 1) (by omega) (by omega) (by repeat (first | exact trivial | refine ⟨rfl, ?_⟩)) (by repeat (first | exact .z | apply Rems.s Rem.z | apply Rems.s (Rem.s Rem.z) | apply Rems.s (Rem.s (Rem.s Rem.z)) | apply Rems.s (Rem.s (Rem.s (Rem.s Rem.z))) | apply Rems.s (Rem.s (Rem.s (Rem.s (Rem.s Rem.z)))) | apply Rems.s (Rem.s (Rem.s (Rem.s (Rem.s (Rem.s Rem.z))))) | apply Rems.s (Rem.s (Rem.s (Rem.s (Rem.s (Rem.s (Rem.s Rem.z)))))) | apply Rems.s (Rem.s (Rem.s (Rem.s (Rem.s (Rem.s (Rem.s (Rem.s Rem.z))))))) | apply Rems.s (Rem.s (Rem.s (Rem.s (Rem.s (Rem.s (Rem.s (Rem.s (Rem.s Rem.z)))))))) | apply Rems.s (Rem.s (Rem.s (Rem.s (Rem.s (Rem.s (Rem.s (Rem.s (Rem.s (Rem.s Rem.z)))))))))))
  · first
    | (exfalso; omega)
    |
      refine R_nil ?_
      refine K_tn ?_
      refine K_seq ?_
      refine K_cond_f rfl ?_
      refine K_exit ?_
      refine K_te ?_
      refine K_te ?_
      refine K_be ?_
      refine K_tn ?_
      refine K_seq ?_
      refine R_region ?_
      have hk : len = k := by omega
      subst hk
      refine r_move rfl rfl rfl ?_
      refine r_makeFunc rfl rfl rfl rfl ?_
      refine r_callV cb_124 rfl rfl rfl rfl rfl (containsFuncGood _ _ _ _ _ _ _ _ he hl 127 [] [.pointer (some ⟨b3, 0, none⟩)] [(b3, .cells [Value.float .f32 (sumG es len)].toArray 41 (0, 0))] (fun a => flt a.2 (sumG es len)) cb_127 (fun a => mayShare1 _ _ _ _ a) hb) (by repeat (first | exact .z | refine .s (.h .z) ?_ | refine .s (.h (.s .z)) ?_ | refine .s (.h (.s (.s .z))) ?_ | refine .s (.h (.s (.s (.s .z)))) ?_ | refine .s (.h (.s (.s (.s (.s .z))))) ?_ | refine .s (.h (.s (.s (.s (.s (.s .z)))))) ?_ | refine .s (.h (.s (.s (.s (.s (.s (.s .z))))))) ?_ | refine .s (.h (.s (.s (.s (.s (.s (.s (.s .z)))))))) ?_ | refine .s (.h (.s (.s (.s (.s (.s (.s (.s (.s .z))))))))) ?_ | refine .s (.x .z) ?_ | refine .s (.x (.s .z)) ?_ | refine .s (.x (.s (.s .z))) ?_ | refine .s (.x (.s (.s (.s .z)))) ?_ | refine .s (.x (.s (.s (.s (.s .z))))) ?_ | refine .s (.x (.s (.s (.s (.s (.s .z)))))) ?_ | refine .s (.x (.s (.s (.s (.s (.s (.s .z))))))) ?_)) ?_
      refine r_not rfl rfl rfl ?_
      refine r_assign rfl rfl rfl ?_
      refine R_nil ?_
      refine K_tn ?_
      refine K_ret ?_
      refine K_done (H' := []) rfl rfl (.s (.tmp rfl) .z) (by repeat (first | exact .z | apply Rems.s Rem.z | apply Rems.s (Rem.s Rem.z) | apply Rems.s (Rem.s (Rem.s Rem.z)) | apply Rems.s (Rem.s (Rem.s (Rem.s Rem.z))) | apply Rems.s (Rem.s (Rem.s (Rem.s (Rem.s Rem.z)))) | apply Rems.s (Rem.s (Rem.s (Rem.s (Rem.s (Rem.s Rem.z))))) | apply Rems.s (Rem.s (Rem.s (Rem.s (Rem.s (Rem.s (Rem.s Rem.z)))))) | apply Rems.s (Rem.s (Rem.s (Rem.s (Rem.s (Rem.s (Rem.s (Rem.s Rem.z))))))) | apply Rems.s (Rem.s (Rem.s (Rem.s (Rem.s (Rem.s (Rem.s (Rem.s (Rem.s Rem.z)))))))) | apply Rems.s (Rem.s (Rem.s (Rem.s (Rem.s (Rem.s (Rem.s (Rem.s (Rem.s (Rem.s Rem.z))))))))))) ?_
      refine ⟨?_, rfl⟩
      exact congrArg Value.bool (by rw [← shareG_any, he])

set_option maxRecDepth 20000 in
theorem l04With (b off len cap : Nat) (l : List Value) (u : TypeId) (fr : Nat × Nat) (es : List Gd) (he : es.length = len) (hl : ∀ i, i < len → takeAt l (off + i * 2) 2 = some (gd (es.getD i gz))) (b2 off2 len2 cap2 : Nat) (l2 : List Value) (u2 : TypeId) (fr2 : Nat × Nat) (hs : List Int) (he2 : hs.length = len2) (hl2 : ∀ i, i < len2 → l2[off2 + i * 1]? = some (.int .i64 (hs.getD i 0))) (h : Int) (hle : len2 ≤ len) (hb : len ≤ 1000000) : Go.Sl.Spec Try.prog 80 [.slice (some ⟨b, off, none⟩) len cap, .slice (some ⟨b2, off2, none⟩) len2 cap2, .int .i64 h] [(b, .cells l.toArray u fr), (b2, .cells l2.toArray u2 fr2)] [] (RowG gd (inH es hs h len2) 2) := by
  refine spec_of Try.func80 rfl Try.ntmps80 rfl (fun w0 => ?_)
  refine K_seq ?_
  refine R_region ?_
  refine r_assign rfl rfl rfl ?_
  refine R_nil ?_
  refine K_tn ?_
  refine K_seq ?_
  refine R_region ?_
  refine r_buildSlice sl_26 sz_98 zr_98 rfl rfl rfl rfl rfl (by first | rfl) (fun b9 => ?_)
  refine r_assign rfl rfl rfl ?_
  refine R_nil ?_
  refine K_tn ?_
  refine K_seq ?_
  refine K_seq ?_
  refine R_region ?_
  refine r_assign rfl rfl rfl ?_
  refine R_nil ?_
  refine K_tn ?_
  refine K_block ?_
  refine K_loop2 (fun (k : Nat) (p : RowP) => k ≤ len2 ∧ (inH es hs h k).length * 2 + p.junk.length = p.cap * 2 ∧ (inH es hs h k).length ≤ p.cap) (fun k p => [(0, .slice (some ⟨b, off, none⟩) len cap), (1, .slice (some ⟨b2, off2, none⟩) len2 cap2), (2, .int .i64 h), (7, .slice (some ⟨p.b, 0, none⟩) (inH es hs h k).length p.cap), (8, .int .i64 (k : Int))]) (fun k p => [(p.b, .cells (fm gd (inH es hs h k) ++ p.junk).toArray p.u (0, 0))]) (fun k _ => len2 - k) 0 ⟨b9, 0, [], 98⟩ (by exact ⟨Nat.zero_le _, rfl, Nat.le_refl _⟩) (by repeat (first | exact trivial | refine ⟨rfl, ?_⟩)) (by repeat (first | exact .z | apply Rems.s Rem.z | apply Rems.s (Rem.s Rem.z) | apply Rems.s (Rem.s (Rem.s Rem.z)) | apply Rems.s (Rem.s (Rem.s (Rem.s Rem.z))) | apply Rems.s (Rem.s (Rem.s (Rem.s (Rem.s Rem.z)))) | apply Rems.s (Rem.s (Rem.s (Rem.s (Rem.s (Rem.s Rem.z))))) | apply Rems.s (Rem.s (Rem.s (Rem.s (Rem.s (Rem.s (Rem.s Rem.z)))))) | apply Rems.s (Rem.s (Rem.s (Rem.s (Rem.s (Rem.s (Rem.s (Rem.s Rem.z))))))) | apply Rems.s (Rem.s (Rem.s (Rem.s (Rem.s (Rem.s (Rem.s (Rem.s (Rem.s Rem.z)))))))) | apply Rems.s (Rem.s (Rem.s (Rem.s (Rem.s (Rem.s (Rem.s (Rem.s (Rem.s (Rem.s Rem.z))))))))))) (fun k p hq0 => ?_)
  obtain ⟨hk, hq1, hq2⟩ := hq0
  have hle0 := inH_le (es := es) (hs := hs) (h := h) k
  refine K_seq ?_
  refine K_seq ?_
  refine R_region ?_
  refine r_move rfl rfl rfl ?_
  refine r_move rfl rfl rfl ?_
  refine r_lenS sl_30 rfl rfl rfl ?_
  refine s_lss rfl rfl rfl rfl (fun h13 => ?_) (fun h13 => ?_)
  · first
    | (exfalso; omega)
    |
      refine R_nil ?_
      refine K_tn ?_
      refine K_cond_t rfl ?_
      refine K_skip ?_
      refine K_tn ?_
      refine K_seq ?_
      refine K_block ?_
      refine K_seq ?_
      refine R_region ?_
      refine r_move rfl rfl rfl ?_
      refine r_move rfl rfl rfl ?_
      refine r_indexS sl_30 sz_2 rfl rfl rfl rfl (by omega) ?_
      refine r_load ag_2 rfl rfl rfl (by first | exact .h .z | exact .h (.s .z) | exact .h (.s (.s .z)) | exact .h (.s (.s (.s .z))) | exact .h (.s (.s (.s (.s .z)))) | exact .h (.s (.s (.s (.s (.s .z))))) | exact .h (.s (.s (.s (.s (.s (.s .z)))))) | exact .h (.s (.s (.s (.s (.s (.s (.s .z))))))) | exact .h (.s (.s (.s (.s (.s (.s (.s (.s .z)))))))) | exact .x .z | exact .x (.s .z) | exact .x (.s (.s .z)) | exact .x (.s (.s (.s .z))) | exact .x (.s (.s (.s (.s .z)))) | exact .x (.s (.s (.s (.s (.s .z))))) | exact .x (.s (.s (.s (.s (.s (.s .z))))))) (by first | rfl | exact hl _ (by omega) | exact hl2 _ (by omega)) ?_
      refine r_move rfl rfl rfl ?_
      refine s_eql rfl rfl rfl rfl (fun h21 => ?_) (fun h21 => ?_)
      · first
        | (exfalso; omega)
        |
          refine R_nil ?_
          refine K_tn ?_
          refine K_cond_t rfl ?_
          refine R_region ?_
          refine r_move rfl rfl rfl ?_
          refine r_move rfl rfl rfl ?_
          refine r_move rfl rfl rfl ?_
          refine r_indexS sl_26 sz_98 rfl rfl rfl rfl (by omega) ?_
          refine r_loadA ag_98 sz_98 rfl rfl rfl (by first | exact .h .z | exact .h (.s .z) | exact .h (.s (.s .z)) | exact .h (.s (.s (.s .z))) | exact .h (.s (.s (.s (.s .z)))) | exact .h (.s (.s (.s (.s (.s .z))))) | exact .h (.s (.s (.s (.s (.s (.s .z)))))) | exact .h (.s (.s (.s (.s (.s (.s (.s .z))))))) | exact .h (.s (.s (.s (.s (.s (.s (.s (.s .z)))))))) | exact .x .z | exact .x (.s .z) | exact .x (.s (.s .z)) | exact .x (.s (.s (.s .z))) | exact .x (.s (.s (.s (.s .z)))) | exact .x (.s (.s (.s (.s (.s .z))))) | exact .x (.s (.s (.s (.s (.s (.s .z))))))) (by first | rfl | exact hl _ (by omega) | exact hl2 _ (by omega)) ?_
          refine r_buildSlice sl_26 sz_98 zr_98 rfl rfl rfl rfl rfl (by first | rfl) (fun b27 => ?_)
          refine r_appendG gd_len gd_one (p := es.getD k gz) sl_26 sl_26 sz_98 zr_98 rfl by_98 rfl rfl rfl rfl rfl (by first | exact .h .z | exact .h (.s .z) | exact .h (.s (.s .z)) | exact .h (.s (.s (.s .z))) | exact .h (.s (.s (.s (.s .z)))) | exact .h (.s (.s (.s (.s (.s .z))))) | exact .h (.s (.s (.s (.s (.s (.s .z)))))) | exact .h (.s (.s (.s (.s (.s (.s (.s .z))))))) | exact .h (.s (.s (.s (.s (.s (.s (.s (.s .z)))))))) | exact .x .z | exact .x (.s .z) | exact .x (.s (.s .z)) | exact .x (.s (.s (.s .z))) | exact .x (.s (.s (.s (.s .z)))) | exact .x (.s (.s (.s (.s (.s .z))))) | exact .x (.s (.s (.s (.s (.s (.s .z))))))) (by first | exact .z | exact (.s .z) | exact (.s (.s .z)) | exact (.s (.s (.s .z))) | exact (.s (.s (.s (.s .z)))) | exact (.s (.s (.s (.s (.s .z))))) | exact (.s (.s (.s (.s (.s (.s .z)))))) | exact (.s (.s (.s (.s (.s (.s (.s .z))))))) | exact (.s (.s (.s (.s (.s (.s (.s (.s .z)))))))) | exact (.s (.s (.s (.s (.s (.s (.s (.s (.s .z)))))))))) rfl (by omega) (by omega) (fun b28 cap28 junk28 u28 hj28 hc28 => ?_)
          refine r_assign rfl rfl rfl ?_
          refine R_nil ?_
          refine K_bn ?_
          refine K_tn ?_
          refine R_region ?_
          refine r_move rfl rfl rfl ?_
          first | refine r_addN rfl rfl rfl rfl (i64K (by omega) (by omega)) ?_ | refine r_add rfl rfl rfl rfl (i64K (by omega) (by omega)) ?_
          refine r_assign rfl rfl rfl ?_
          refine R_nil ?_
          refine K_tn ?_
          first | (have hE := inH_t (es := es) (hs := hs) (h := h) (k := k) h21; have hEl : (inH es hs h k).length + 1 = (inH es hs h (k + 1)).length := (by rw [← hE]; simp); rw [hE, hEl]; rw [hEl] at hj28 hc28) | (have hE := inH_f (es := es) (hs := hs) (h := h) (k := k) h21; have hEl := congrArg List.length hE; rw [hE])
          first | (exact K_again2 (pre := (fun (k : Nat) (p : RowP) => k ≤ len2 ∧ (inH es hs h k).length * 2 + p.junk.length = p.cap * 2 ∧ (inH es hs h k).length ≤ p.cap)) (Ei := (fun k p => [(0, .slice (some ⟨b, off, none⟩) len cap), (1, .slice (some ⟨b2, off2, none⟩) len2 cap2), (2, .int .i64 h), (7, .slice (some ⟨p.b, 0, none⟩) (inH es hs h k).length p.cap), (8, .int .i64 (k : Int))])) (Hi := (fun k p => [(p.b, .cells (fm gd (inH es hs h k) ++ p.junk).toArray p.u (0, 0))])) (μ := (fun k _ => len2 - k)) (k + 1) (RowP.mk b28 cap28 junk28 u28) (by refine ⟨?_, ?_, ?_⟩ <;> (try simp only) <;> omega) (by omega) (by repeat (first | exact trivial | refine ⟨rfl, ?_⟩)) (by repeat (first | exact .z | apply Rems.s Rem.z | apply Rems.s (Rem.s Rem.z) | apply Rems.s (Rem.s (Rem.s Rem.z)) | apply Rems.s (Rem.s (Rem.s (Rem.s Rem.z))) | apply Rems.s (Rem.s (Rem.s (Rem.s (Rem.s Rem.z)))) | apply Rems.s (Rem.s (Rem.s (Rem.s (Rem.s (Rem.s Rem.z))))) | apply Rems.s (Rem.s (Rem.s (Rem.s (Rem.s (Rem.s (Rem.s Rem.z)))))) | apply Rems.s (Rem.s (Rem.s (Rem.s (Rem.s (Rem.s (Rem.s (Rem.s Rem.z))))))) | apply Rems.s (Rem.s (Rem.s (Rem.s (Rem.s (Rem.s (Rem.s (Rem.s (Rem.s Rem.z)))))))) | apply Rems.s (Rem.s (Rem.s (Rem.s (Rem.s (Rem.s (Rem.s (Rem.s (Rem.s (Rem.s Rem.z)))))))))))) | (exact K_again2 (pre := (fun (k : Nat) (p : RowP) => k ≤ len2 ∧ (inH es hs h k).length * 2 + p.junk.length = p.cap * 2 ∧ (inH es hs h k).length ≤ p.cap)) (Ei := (fun k p => [(0, .slice (some ⟨b, off, none⟩) len cap), (1, .slice (some ⟨b2, off2, none⟩) len2 cap2), (2, .int .i64 h), (7, .slice (some ⟨p.b, 0, none⟩) (inH es hs h k).length p.cap), (8, .int .i64 (k : Int))])) (Hi := (fun k p => [(p.b, .cells (fm gd (inH es hs h k) ++ p.junk).toArray p.u (0, 0))])) (μ := (fun k _ => len2 - k)) (k + 1) p (by refine ⟨?_, ?_, ?_⟩ <;> (try simp only) <;> omega) (by omega) (by repeat (first | exact trivial | refine ⟨rfl, ?_⟩)) (by repeat (first | exact .z | apply Rems.s Rem.z | apply Rems.s (Rem.s Rem.z) | apply Rems.s (Rem.s (Rem.s Rem.z)) | apply Rems.s (Rem.s (Rem.s (Rem.s Rem.z))) | apply Rems.s (Rem.s (Rem.s (Rem.s (Rem.s Rem.z)))) | apply Rems.s (Rem.s (Rem.s (Rem.s (Rem.s (Rem.s Rem.z))))) | apply Rems.s (Rem.s (Rem.s (Rem.s (Rem.s (Rem.s (Rem.s Rem.z)))))) | apply Rems.s (Rem.s (Rem.s (Rem.s (Rem.s (Rem.s (Rem.s (Rem.s Rem.z))))))) | apply Rems.s (Rem.s (Rem.s (Rem.s (Rem.s (Rem.s (Rem.s (Rem.s (Rem.s Rem.z)))))))) | apply Rems.s (Rem.s (Rem.s (Rem.s (Rem.s (Rem.s (Rem.s (Rem.s (Rem.s (Rem.s Rem.z))))))))))))
      · first
        | (exfalso; omega)
        |
          refine R_nil ?_
          refine K_tn ?_
          refine K_cond_f rfl ?_
          refine K_skip ?_
          refine K_bn ?_
          refine K_tn ?_
          refine R_region ?_
          refine r_move rfl rfl rfl ?_
          first | refine r_addN rfl rfl rfl rfl (i64K (by omega) (by omega)) ?_ | refine r_add rfl rfl rfl rfl (i64K (by omega) (by omega)) ?_
          refine r_assign rfl rfl rfl ?_
          refine R_nil ?_
          refine K_tn ?_
          first | (have hE := inH_t (es := es) (hs := hs) (h := h) (k := k) h21; have hEl : (inH es hs h k).length + 1 = (inH es hs h (k + 1)).length := (by rw [← hE]; simp); rw [hE, hEl]; rw [hEl] at hj28 hc28) | (have hE := inH_f (es := es) (hs := hs) (h := h) (k := k) h21; have hEl := congrArg List.length hE; rw [hE])
          first | (exact K_again2 (pre := (fun (k : Nat) (p : RowP) => k ≤ len2 ∧ (inH es hs h k).length * 2 + p.junk.length = p.cap * 2 ∧ (inH es hs h k).length ≤ p.cap)) (Ei := (fun k p => [(0, .slice (some ⟨b, off, none⟩) len cap), (1, .slice (some ⟨b2, off2, none⟩) len2 cap2), (2, .int .i64 h), (7, .slice (some ⟨p.b, 0, none⟩) (inH es hs h k).length p.cap), (8, .int .i64 (k : Int))])) (Hi := (fun k p => [(p.b, .cells (fm gd (inH es hs h k) ++ p.junk).toArray p.u (0, 0))])) (μ := (fun k _ => len2 - k)) (k + 1) (RowP.mk b28 cap28 junk28 u28) (by refine ⟨?_, ?_, ?_⟩ <;> (try simp only) <;> omega) (by omega) (by repeat (first | exact trivial | refine ⟨rfl, ?_⟩)) (by repeat (first | exact .z | apply Rems.s Rem.z | apply Rems.s (Rem.s Rem.z) | apply Rems.s (Rem.s (Rem.s Rem.z)) | apply Rems.s (Rem.s (Rem.s (Rem.s Rem.z))) | apply Rems.s (Rem.s (Rem.s (Rem.s (Rem.s Rem.z)))) | apply Rems.s (Rem.s (Rem.s (Rem.s (Rem.s (Rem.s Rem.z))))) | apply Rems.s (Rem.s (Rem.s (Rem.s (Rem.s (Rem.s (Rem.s Rem.z)))))) | apply Rems.s (Rem.s (Rem.s (Rem.s (Rem.s (Rem.s (Rem.s (Rem.s Rem.z))))))) | apply Rems.s (Rem.s (Rem.s (Rem.s (Rem.s (Rem.s (Rem.s (Rem.s (Rem.s Rem.z)))))))) | apply Rems.s (Rem.s (Rem.s (Rem.s (Rem.s (Rem.s (Rem.s (Rem.s (Rem.s (Rem.s Rem.z)))))))))))) | (exact K_again2 (pre := (fun (k : Nat) (p : RowP) => k ≤ len2 ∧ (inH es hs h k).length * 2 + p.junk.length = p.cap * 2 ∧ (inH es hs h k).length ≤ p.cap)) (Ei := (fun k p => [(0, .slice (some ⟨b, off, none⟩) len cap), (1, .slice (some ⟨b2, off2, none⟩) len2 cap2), (2, .int .i64 h), (7, .slice (some ⟨p.b, 0, none⟩) (inH es hs h k).length p.cap), (8, .int .i64 (k : Int))])) (Hi := (fun k p => [(p.b, .cells (fm gd (inH es hs h k) ++ p.junk).toArray p.u (0, 0))])) (μ := (fun k _ => len2 - k)) (k + 1) p (by refine ⟨?_, ?_, ?_⟩ <;> (try simp only) <;> omega) (by omega) (by repeat (first | exact trivial | refine ⟨rfl, ?_⟩)) (by repeat (first | exact .z | apply Rems.s Rem.z | apply Rems.s (Rem.s Rem.z) | apply Rems.s (Rem.s (Rem.s Rem.z)) | apply Rems.s (Rem.s (Rem.s (Rem.s Rem.z))) | apply Rems.s (Rem.s (Rem.s (Rem.s (Rem.s Rem.z)))) | apply Rems.s (Rem.s (Rem.s (Rem.s (Rem.s (Rem.s Rem.z))))) | apply Rems.s (Rem.s (Rem.s (Rem.s (Rem.s (Rem.s (Rem.s Rem.z)))))) | apply Rems.s (Rem.s (Rem.s (Rem.s (Rem.s (Rem.s (Rem.s (Rem.s Rem.z))))))) | apply Rems.s (Rem.s (Rem.s (Rem.s (Rem.s (Rem.s (Rem.s (Rem.s (Rem.s Rem.z)))))))) | apply Rems.s (Rem.s (Rem.s (Rem.s (Rem.s (Rem.s (Rem.s (Rem.s (Rem.s (Rem.s Rem.z))))))))))))
  · first
    | (exfalso; omega)
    |
      refine R_nil ?_
      refine K_tn ?_
      refine K_cond_f rfl ?_
      refine K_exit ?_
      refine K_te ?_
      refine K_te ?_
      refine K_be ?_
      refine K_tn ?_
      refine K_seq ?_
      refine R_region ?_
      have hk2 : len2 = k := by omega
      subst hk2
      refine r_move rfl rfl rfl ?_
      refine r_assign rfl rfl rfl ?_
      refine R_nil ?_
      refine K_tn ?_
      refine K_ret ?_
      refine K_done (H' := [(p.b, .cells (fm gd (inH es hs h len2) ++ p.junk).toArray p.u (0, 0))]) rfl rfl (.s (.tmp rfl) .z) (by repeat (first | exact .z | apply Rems.s Rem.z | apply Rems.s (Rem.s Rem.z) | apply Rems.s (Rem.s (Rem.s Rem.z)) | apply Rems.s (Rem.s (Rem.s (Rem.s Rem.z))) | apply Rems.s (Rem.s (Rem.s (Rem.s (Rem.s Rem.z)))) | apply Rems.s (Rem.s (Rem.s (Rem.s (Rem.s (Rem.s Rem.z))))) | apply Rems.s (Rem.s (Rem.s (Rem.s (Rem.s (Rem.s (Rem.s Rem.z)))))) | apply Rems.s (Rem.s (Rem.s (Rem.s (Rem.s (Rem.s (Rem.s (Rem.s Rem.z))))))) | apply Rems.s (Rem.s (Rem.s (Rem.s (Rem.s (Rem.s (Rem.s (Rem.s (Rem.s Rem.z)))))))) | apply Rems.s (Rem.s (Rem.s (Rem.s (Rem.s (Rem.s (Rem.s (Rem.s (Rem.s (Rem.s Rem.z))))))))))) ?_
      exact ⟨p.b, p.cap, p.junk, p.u, rfl, hq1, hq2, rfl⟩

set_option maxRecDepth 20000 in
theorem inHold (b off len cap : Nat) (l : List Value) (u : TypeId) (fr : Nat × Nat) (es : List Gd) (he : es.length = len) (hl : ∀ i, i < len → takeAt l (off + i * 2) 2 = some (gd (es.getD i gz))) (b2 off2 len2 cap2 : Nat) (l2 : List Value) (u2 : TypeId) (fr2 : Nat × Nat) (hs : List Int) (he2 : hs.length = len2) (hl2 : ∀ i, i < len2 → l2[off2 + i * 1]? = some (.int .i64 (hs.getD i 0))) (h : Int) (hle : len2 ≤ len) (hb : len ≤ 1000000) : Go.Sl.Spec Try.prog 85 [.slice (some ⟨b, off, none⟩) len cap, .slice (some ⟨b2, off2, none⟩) len2 cap2, .int .i64 h] [(b, .cells l.toArray u fr), (b2, .cells l2.toArray u2 fr2)] [] (RowG gd (inH es hs h len2) 2) := by
  refine spec_of Try.func85 rfl Try.ntmps85 rfl (fun w0 => ?_)
  refine K_seq ?_
  refine R_region ?_
  refine r_assign rfl rfl rfl ?_
  refine R_nil ?_
  refine K_tn ?_
  refine K_seq ?_
  refine R_region ?_
  refine r_buildSlice sl_26 sz_98 zr_98 rfl rfl rfl rfl rfl (by first | rfl) (fun b10 => ?_)
  refine r_assign rfl rfl rfl ?_
  refine R_nil ?_
  refine K_tn ?_
  refine K_seq ?_
  refine K_seq ?_
  refine R_region ?_
  refine r_move rfl rfl rfl ?_
  refine r_lenS sl_30 rfl rfl rfl ?_
  refine r_move rfl rfl rfl ?_
  refine R_nil ?_
  refine K_tn ?_
  refine K_block ?_
  refine K_loop2 (fun (k : Nat) (p : RowP) => k ≤ len2 ∧ (inH es hs h k).length * 2 + p.junk.length = p.cap * 2 ∧ (inH es hs h k).length ≤ p.cap) (fun k p => [(0, .slice (some ⟨b, off, none⟩) len cap), (1, .slice (some ⟨b2, off2, none⟩) len2 cap2), (2, .int .i64 h), (7, .slice (some ⟨p.b, 0, none⟩) (inH es hs h k).length p.cap), (13, .int .i64 (k : Int)), (11, .slice (some ⟨b2, off2, none⟩) len2 cap2), (12, .int .i64 (len2 : Int))]) (fun k p => [(p.b, .cells (fm gd (inH es hs h k) ++ p.junk).toArray p.u (0, 0))]) (fun k _ => len2 - k) 0 ⟨b10, 0, [], 98⟩ (by exact ⟨Nat.zero_le _, rfl, Nat.le_refl _⟩) (by repeat (first | exact trivial | refine ⟨rfl, ?_⟩)) (by repeat (first | exact .z | apply Rems.s Rem.z | apply Rems.s (Rem.s Rem.z) | apply Rems.s (Rem.s (Rem.s Rem.z)) | apply Rems.s (Rem.s (Rem.s (Rem.s Rem.z))) | apply Rems.s (Rem.s (Rem.s (Rem.s (Rem.s Rem.z)))) | apply Rems.s (Rem.s (Rem.s (Rem.s (Rem.s (Rem.s Rem.z))))) | apply Rems.s (Rem.s (Rem.s (Rem.s (Rem.s (Rem.s (Rem.s Rem.z)))))) | apply Rems.s (Rem.s (Rem.s (Rem.s (Rem.s (Rem.s (Rem.s (Rem.s Rem.z))))))) | apply Rems.s (Rem.s (Rem.s (Rem.s (Rem.s (Rem.s (Rem.s (Rem.s (Rem.s Rem.z)))))))) | apply Rems.s (Rem.s (Rem.s (Rem.s (Rem.s (Rem.s (Rem.s (Rem.s (Rem.s (Rem.s Rem.z))))))))))) (fun k p hq0 => ?_)
  obtain ⟨hk, hq1, hq2⟩ := hq0
  have hle0 := inH_le (es := es) (hs := hs) (h := h) k
  refine K_seq ?_
  refine R_region ?_
  refine s_lss rfl rfl rfl rfl (fun h14 => ?_) (fun h14 => ?_)
  · first
    | (exfalso; omega)
    |
      refine R_nil ?_
      refine K_tn ?_
      refine K_seq ?_
      refine K_cond_t rfl ?_
      refine K_skip ?_
      refine K_tn ?_
      refine K_seq ?_
      refine K_block ?_
      refine K_seq ?_
      refine R_region ?_
      refine r_move rfl rfl rfl ?_
      refine r_indexS sl_30 sz_2 rfl rfl rfl rfl (by omega) ?_
      refine r_load ag_2 rfl rfl rfl (by first | exact .h .z | exact .h (.s .z) | exact .h (.s (.s .z)) | exact .h (.s (.s (.s .z))) | exact .h (.s (.s (.s (.s .z)))) | exact .h (.s (.s (.s (.s (.s .z))))) | exact .h (.s (.s (.s (.s (.s (.s .z)))))) | exact .h (.s (.s (.s (.s (.s (.s (.s .z))))))) | exact .h (.s (.s (.s (.s (.s (.s (.s (.s .z)))))))) | exact .x .z | exact .x (.s .z) | exact .x (.s (.s .z)) | exact .x (.s (.s (.s .z))) | exact .x (.s (.s (.s (.s .z)))) | exact .x (.s (.s (.s (.s (.s .z))))) | exact .x (.s (.s (.s (.s (.s (.s .z))))))) (by first | rfl | exact hl _ (by omega) | exact hl2 _ (by omega)) ?_
      refine r_assign rfl rfl rfl ?_
      refine r_assign rfl rfl rfl ?_
      refine R_nil ?_
      refine K_tn ?_
      refine K_seq ?_
      refine R_region ?_
      refine r_move rfl rfl rfl ?_
      refine r_move rfl rfl rfl ?_
      refine s_eql rfl rfl rfl rfl (fun h20 => ?_) (fun h20 => ?_)
      · first
        | (exfalso; omega)
        |
          refine R_nil ?_
          refine K_tn ?_
          refine K_cond_t rfl ?_
          refine R_region ?_
          refine r_move rfl rfl rfl ?_
          refine r_move rfl rfl rfl ?_
          refine r_move rfl rfl rfl ?_
          refine r_indexS sl_26 sz_98 rfl rfl rfl rfl (by omega) ?_
          refine r_loadA ag_98 sz_98 rfl rfl rfl (by first | exact .h .z | exact .h (.s .z) | exact .h (.s (.s .z)) | exact .h (.s (.s (.s .z))) | exact .h (.s (.s (.s (.s .z)))) | exact .h (.s (.s (.s (.s (.s .z))))) | exact .h (.s (.s (.s (.s (.s (.s .z)))))) | exact .h (.s (.s (.s (.s (.s (.s (.s .z))))))) | exact .h (.s (.s (.s (.s (.s (.s (.s (.s .z)))))))) | exact .x .z | exact .x (.s .z) | exact .x (.s (.s .z)) | exact .x (.s (.s (.s .z))) | exact .x (.s (.s (.s (.s .z)))) | exact .x (.s (.s (.s (.s (.s .z))))) | exact .x (.s (.s (.s (.s (.s (.s .z))))))) (by first | rfl | exact hl _ (by omega) | exact hl2 _ (by omega)) ?_
          refine r_buildSlice sl_26 sz_98 zr_98 rfl rfl rfl rfl rfl (by first | rfl) (fun b26 => ?_)
          refine r_appendG gd_len gd_one (p := es.getD k gz) sl_26 sl_26 sz_98 zr_98 rfl by_98 rfl rfl rfl rfl rfl (by first | exact .h .z | exact .h (.s .z) | exact .h (.s (.s .z)) | exact .h (.s (.s (.s .z))) | exact .h (.s (.s (.s (.s .z)))) | exact .h (.s (.s (.s (.s (.s .z))))) | exact .h (.s (.s (.s (.s (.s (.s .z)))))) | exact .h (.s (.s (.s (.s (.s (.s (.s .z))))))) | exact .h (.s (.s (.s (.s (.s (.s (.s (.s .z)))))))) | exact .x .z | exact .x (.s .z) | exact .x (.s (.s .z)) | exact .x (.s (.s (.s .z))) | exact .x (.s (.s (.s (.s .z)))) | exact .x (.s (.s (.s (.s (.s .z))))) | exact .x (.s (.s (.s (.s (.s (.s .z))))))) (by first | exact .z | exact (.s .z) | exact (.s (.s .z)) | exact (.s (.s (.s .z))) | exact (.s (.s (.s (.s .z)))) | exact (.s (.s (.s (.s (.s .z))))) | exact (.s (.s (.s (.s (.s (.s .z)))))) | exact (.s (.s (.s (.s (.s (.s (.s .z))))))) | exact (.s (.s (.s (.s (.s (.s (.s (.s .z)))))))) | exact (.s (.s (.s (.s (.s (.s (.s (.s (.s .z)))))))))) rfl (by omega) (by omega) (fun b27 cap27 junk27 u27 hj27 hc27 => ?_)
          refine r_assign rfl rfl rfl ?_
          refine R_nil ?_
          refine K_bn ?_
          refine K_tn ?_
          refine R_region ?_
          first | refine r_addN rfl rfl rfl rfl (i64K (by omega) (by omega)) ?_ | refine r_add rfl rfl rfl rfl (i64K (by omega) (by omega)) ?_
          refine r_move rfl rfl rfl ?_
          refine R_nil ?_
          refine K_tn ?_
          first | (have hE := inH_t (es := es) (hs := hs) (h := h) (k := k) h20; have hEl : (inH es hs h k).length + 1 = (inH es hs h (k + 1)).length := (by rw [← hE]; simp); rw [hE, hEl]; rw [hEl] at hj27 hc27) | (have hE := inH_f (es := es) (hs := hs) (h := h) (k := k) h20; have hEl := congrArg List.length hE; rw [hE])
          first | (exact K_again2 (pre := (fun (k : Nat) (p : RowP) => k ≤ len2 ∧ (inH es hs h k).length * 2 + p.junk.length = p.cap * 2 ∧ (inH es hs h k).length ≤ p.cap)) (Ei := (fun k p => [(0, .slice (some ⟨b, off, none⟩) len cap), (1, .slice (some ⟨b2, off2, none⟩) len2 cap2), (2, .int .i64 h), (7, .slice (some ⟨p.b, 0, none⟩) (inH es hs h k).length p.cap), (13, .int .i64 (k : Int)), (11, .slice (some ⟨b2, off2, none⟩) len2 cap2), (12, .int .i64 (len2 : Int))])) (Hi := (fun k p => [(p.b, .cells (fm gd (inH es hs h k) ++ p.junk).toArray p.u (0, 0))])) (μ := (fun k _ => len2 - k)) (k + 1) (RowP.mk b27 cap27 junk27 u27) (by refine ⟨?_, ?_, ?_⟩ <;> (try simp only) <;> omega) (by omega) (by repeat (first | exact trivial | refine ⟨rfl, ?_⟩)) (by repeat (first | exact .z | apply Rems.s Rem.z | apply Rems.s (Rem.s Rem.z) | apply Rems.s (Rem.s (Rem.s Rem.z)) | apply Rems.s (Rem.s (Rem.s (Rem.s Rem.z))) | apply Rems.s (Rem.s (Rem.s (Rem.s (Rem.s Rem.z)))) | apply Rems.s (Rem.s (Rem.s (Rem.s (Rem.s (Rem.s Rem.z))))) | apply Rems.s (Rem.s (Rem.s (Rem.s (Rem.s (Rem.s (Rem.s Rem.z)))))) | apply Rems.s (Rem.s (Rem.s (Rem.s (Rem.s (Rem.s (Rem.s (Rem.s Rem.z))))))) | apply Rems.s (Rem.s (Rem.s (Rem.s (Rem.s (Rem.s (Rem.s (Rem.s (Rem.s Rem.z)))))))) | apply Rems.s (Rem.s (Rem.s (Rem.s (Rem.s (Rem.s (Rem.s (Rem.s (Rem.s (Rem.s Rem.z)))))))))))) | (exact K_again2 (pre := (fun (k : Nat) (p : RowP) => k ≤ len2 ∧ (inH es hs h k).length * 2 + p.junk.length = p.cap * 2 ∧ (inH es hs h k).length ≤ p.cap)) (Ei := (fun k p => [(0, .slice (some ⟨b, off, none⟩) len cap), (1, .slice (some ⟨b2, off2, none⟩) len2 cap2), (2, .int .i64 h), (7, .slice (some ⟨p.b, 0, none⟩) (inH es hs h k).length p.cap), (13, .int .i64 (k : Int)), (11, .slice (some ⟨b2, off2, none⟩) len2 cap2), (12, .int .i64 (len2 : Int))])) (Hi := (fun k p => [(p.b, .cells (fm gd (inH es hs h k) ++ p.junk).toArray p.u (0, 0))])) (μ := (fun k _ => len2 - k)) (k + 1) p (by refine ⟨?_, ?_, ?_⟩ <;> (try simp only) <;> omega) (by omega) (by repeat (first | exact trivial | refine ⟨rfl, ?_⟩)) (by repeat (first | exact .z | apply Rems.s Rem.z | apply Rems.s (Rem.s Rem.z) | apply Rems.s (Rem.s (Rem.s Rem.z)) | apply Rems.s (Rem.s (Rem.s (Rem.s Rem.z))) | apply Rems.s (Rem.s (Rem.s (Rem.s (Rem.s Rem.z)))) | apply Rems.s (Rem.s (Rem.s (Rem.s (Rem.s (Rem.s Rem.z))))) | apply Rems.s (Rem.s (Rem.s (Rem.s (Rem.s (Rem.s (Rem.s Rem.z)))))) | apply Rems.s (Rem.s (Rem.s (Rem.s (Rem.s (Rem.s (Rem.s (Rem.s Rem.z))))))) | apply Rems.s (Rem.s (Rem.s (Rem.s (Rem.s (Rem.s (Rem.s (Rem.s (Rem.s Rem.z)))))))) | apply Rems.s (Rem.s (Rem.s (Rem.s (Rem.s (Rem.s (Rem.s (Rem.s (Rem.s (Rem.s Rem.z))))))))))))
      · first
        | (exfalso; omega)
        |
          refine R_nil ?_
          refine K_tn ?_
          refine K_cond_f rfl ?_
          refine K_skip ?_
          refine K_bn ?_
          refine K_tn ?_
          refine R_region ?_
          first | refine r_addN rfl rfl rfl rfl (i64K (by omega) (by omega)) ?_ | refine r_add rfl rfl rfl rfl (i64K (by omega) (by omega)) ?_
          refine r_move rfl rfl rfl ?_
          refine R_nil ?_
          refine K_tn ?_
          first | (have hE := inH_t (es := es) (hs := hs) (h := h) (k := k) h20; have hEl : (inH es hs h k).length + 1 = (inH es hs h (k + 1)).length := (by rw [← hE]; simp); rw [hE, hEl]; rw [hEl] at hj27 hc27) | (have hE := inH_f (es := es) (hs := hs) (h := h) (k := k) h20; have hEl := congrArg List.length hE; rw [hE])
          first | (exact K_again2 (pre := (fun (k : Nat) (p : RowP) => k ≤ len2 ∧ (inH es hs h k).length * 2 + p.junk.length = p.cap * 2 ∧ (inH es hs h k).length ≤ p.cap)) (Ei := (fun k p => [(0, .slice (some ⟨b, off, none⟩) len cap), (1, .slice (some ⟨b2, off2, none⟩) len2 cap2), (2, .int .i64 h), (7, .slice (some ⟨p.b, 0, none⟩) (inH es hs h k).length p.cap), (13, .int .i64 (k : Int)), (11, .slice (some ⟨b2, off2, none⟩) len2 cap2), (12, .int .i64 (len2 : Int))])) (Hi := (fun k p => [(p.b, .cells (fm gd (inH es hs h k) ++ p.junk).toArray p.u (0, 0))])) (μ := (fun k _ => len2 - k)) (k + 1) (RowP.mk b27 cap27 junk27 u27) (by refine ⟨?_, ?_, ?_⟩ <;> (try simp only) <;> omega) (by omega) (by repeat (first | exact trivial | refine ⟨rfl, ?_⟩)) (by repeat (first | exact .z | apply Rems.s Rem.z | apply Rems.s (Rem.s Rem.z) | apply Rems.s (Rem.s (Rem.s Rem.z)) | apply Rems.s (Rem.s (Rem.s (Rem.s Rem.z))) | apply Rems.s (Rem.s (Rem.s (Rem.s (Rem.s Rem.z)))) | apply Rems.s (Rem.s (Rem.s (Rem.s (Rem.s (Rem.s Rem.z))))) | apply Rems.s (Rem.s (Rem.s (Rem.s (Rem.s (Rem.s (Rem.s Rem.z)))))) | apply Rems.s (Rem.s (Rem.s (Rem.s (Rem.s (Rem.s (Rem.s (Rem.s Rem.z))))))) | apply Rems.s (Rem.s (Rem.s (Rem.s (Rem.s (Rem.s (Rem.s (Rem.s (Rem.s Rem.z)))))))) | apply Rems.s (Rem.s (Rem.s (Rem.s (Rem.s (Rem.s (Rem.s (Rem.s (Rem.s (Rem.s Rem.z)))))))))))) | (exact K_again2 (pre := (fun (k : Nat) (p : RowP) => k ≤ len2 ∧ (inH es hs h k).length * 2 + p.junk.length = p.cap * 2 ∧ (inH es hs h k).length ≤ p.cap)) (Ei := (fun k p => [(0, .slice (some ⟨b, off, none⟩) len cap), (1, .slice (some ⟨b2, off2, none⟩) len2 cap2), (2, .int .i64 h), (7, .slice (some ⟨p.b, 0, none⟩) (inH es hs h k).length p.cap), (13, .int .i64 (k : Int)), (11, .slice (some ⟨b2, off2, none⟩) len2 cap2), (12, .int .i64 (len2 : Int))])) (Hi := (fun k p => [(p.b, .cells (fm gd (inH es hs h k) ++ p.junk).toArray p.u (0, 0))])) (μ := (fun k _ => len2 - k)) (k + 1) p (by refine ⟨?_, ?_, ?_⟩ <;> (try simp only) <;> omega) (by omega) (by repeat (first | exact trivial | refine ⟨rfl, ?_⟩)) (by repeat (first | exact .z | apply Rems.s Rem.z | apply Rems.s (Rem.s Rem.z) | apply Rems.s (Rem.s (Rem.s Rem.z)) | apply Rems.s (Rem.s (Rem.s (Rem.s Rem.z))) | apply Rems.s (Rem.s (Rem.s (Rem.s (Rem.s Rem.z)))) | apply Rems.s (Rem.s (Rem.s (Rem.s (Rem.s (Rem.s Rem.z))))) | apply Rems.s (Rem.s (Rem.s (Rem.s (Rem.s (Rem.s (Rem.s Rem.z)))))) | apply Rems.s (Rem.s (Rem.s (Rem.s (Rem.s (Rem.s (Rem.s (Rem.s Rem.z))))))) | apply Rems.s (Rem.s (Rem.s (Rem.s (Rem.s (Rem.s (Rem.s (Rem.s (Rem.s Rem.z)))))))) | apply Rems.s (Rem.s (Rem.s (Rem.s (Rem.s (Rem.s (Rem.s (Rem.s (Rem.s (Rem.s Rem.z))))))))))))
  · first
    | (exfalso; omega)
    |
      refine R_nil ?_
      refine K_tn ?_
      refine K_seq ?_
      refine K_cond_f rfl ?_
      refine K_exit ?_
      refine K_te ?_
      refine K_te ?_
      refine K_be ?_
      refine K_tn ?_
      refine K_seq ?_
      refine R_region ?_
      have hk2 : len2 = k := by omega
      subst hk2
      refine r_move rfl rfl rfl ?_
      refine r_assign rfl rfl rfl ?_
      refine R_nil ?_
      refine K_tn ?_
      refine K_ret ?_
      refine K_done (H' := [(p.b, .cells (fm gd (inH es hs h len2) ++ p.junk).toArray p.u (0, 0))]) rfl rfl (.s (.tmp rfl) .z) (by repeat (first | exact .z | apply Rems.s Rem.z | apply Rems.s (Rem.s Rem.z) | apply Rems.s (Rem.s (Rem.s Rem.z)) | apply Rems.s (Rem.s (Rem.s (Rem.s Rem.z))) | apply Rems.s (Rem.s (Rem.s (Rem.s (Rem.s Rem.z)))) | apply Rems.s (Rem.s (Rem.s (Rem.s (Rem.s (Rem.s Rem.z))))) | apply Rems.s (Rem.s (Rem.s (Rem.s (Rem.s (Rem.s (Rem.s Rem.z)))))) | apply Rems.s (Rem.s (Rem.s (Rem.s (Rem.s (Rem.s (Rem.s (Rem.s Rem.z))))))) | apply Rems.s (Rem.s (Rem.s (Rem.s (Rem.s (Rem.s (Rem.s (Rem.s (Rem.s Rem.z)))))))) | apply Rems.s (Rem.s (Rem.s (Rem.s (Rem.s (Rem.s (Rem.s (Rem.s (Rem.s (Rem.s Rem.z))))))))))) ?_
      exact ⟨p.b, p.cap, p.junk, p.u, rfl, hq1, hq2, rfl⟩

set_option maxRecDepth 20000 in
theorem areRight1 (a : Int) : SpecV Try.prog 129 [.int .i64 a] [] (.bool (!inR a 0 6)) := by
  refine spec_of Try.func129 rfl Try.ntmps129 rfl (fun w0 => ?_)
  refine K_seq ?_
  refine R_region ?_
  refine r_assign rfl rfl rfl ?_
  refine R_nil ?_
  refine K_tn ?_
  refine K_seq ?_
  refine R_region ?_
  refine r_move rfl rfl rfl ?_
  refine r_callV cb_130 rfl rfl rfl rfl rfl (within _ _ _) (by repeat (first | exact .z | refine .s (.h .z) ?_ | refine .s (.h (.s .z)) ?_ | refine .s (.h (.s (.s .z))) ?_ | refine .s (.h (.s (.s (.s .z)))) ?_ | refine .s (.h (.s (.s (.s (.s .z))))) ?_ | refine .s (.h (.s (.s (.s (.s (.s .z)))))) ?_ | refine .s (.h (.s (.s (.s (.s (.s (.s .z))))))) ?_ | refine .s (.h (.s (.s (.s (.s (.s (.s (.s .z)))))))) ?_ | refine .s (.h (.s (.s (.s (.s (.s (.s (.s (.s .z))))))))) ?_ | refine .s (.x .z) ?_ | refine .s (.x (.s .z)) ?_ | refine .s (.x (.s (.s .z))) ?_ | refine .s (.x (.s (.s (.s .z)))) ?_ | refine .s (.x (.s (.s (.s (.s .z))))) ?_ | refine .s (.x (.s (.s (.s (.s (.s .z)))))) ?_ | refine .s (.x (.s (.s (.s (.s (.s (.s .z))))))) ?_)) ?_
  refine r_not rfl rfl rfl ?_
  refine r_assign rfl rfl rfl ?_
  refine R_nil ?_
  refine K_tn ?_
  refine K_ret ?_
  refine K_done (H' := []) rfl rfl (.s (.tmp rfl) .z) (by repeat (first | exact .z | apply Rems.s Rem.z | apply Rems.s (Rem.s Rem.z) | apply Rems.s (Rem.s (Rem.s Rem.z)) | apply Rems.s (Rem.s (Rem.s (Rem.s Rem.z))) | apply Rems.s (Rem.s (Rem.s (Rem.s (Rem.s Rem.z)))) | apply Rems.s (Rem.s (Rem.s (Rem.s (Rem.s (Rem.s Rem.z))))) | apply Rems.s (Rem.s (Rem.s (Rem.s (Rem.s (Rem.s (Rem.s Rem.z)))))) | apply Rems.s (Rem.s (Rem.s (Rem.s (Rem.s (Rem.s (Rem.s (Rem.s Rem.z))))))) | apply Rems.s (Rem.s (Rem.s (Rem.s (Rem.s (Rem.s (Rem.s (Rem.s (Rem.s Rem.z)))))))) | apply Rems.s (Rem.s (Rem.s (Rem.s (Rem.s (Rem.s (Rem.s (Rem.s (Rem.s (Rem.s Rem.z))))))))))) ?_
  refine ⟨?_, rfl⟩
  rfl

set_option maxRecDepth 20000 in
theorem areRight (b off len cap : Nat) (l : List Value) (u : TypeId) (fr : Nat × Nat) (es : List Gd) (he : es.length = len) (hl : ∀ i, i < len → takeAt l (off + i * 2) 2 = some (gd (es.getD i gz))) (b2 off2 len2 cap2 : Nat) (l2 : List Value) (u2 : TypeId) (fr2 : Nat × Nat) (hs : List Int) (he2 : hs.length = len2) (hl2 : ∀ i, i < len2 → l2[off2 + i * 1]? = some (.int .i64 (hs.getD i 0))) (hv : es.all validG = true) (hb : len ≤ 1000000) (hb2 : len2 ≤ 1048576) : SpecV Try.prog 81 [.slice (some ⟨b, off, none⟩) len cap, .slice (some ⟨b2, off2, none⟩) len2 cap2] [(b, .cells l.toArray u fr), (b2, .cells l2.toArray u2 fr2)] (.bool (rightG es hs)) := by
  refine spec_of Try.func81 rfl Try.ntmps81 rfl (fun w0 => ?_)
  refine K_seq ?_
  refine R_region ?_
  refine r_assign rfl rfl rfl ?_
  refine R_nil ?_
  refine K_tn ?_
  refine K_seq ?_
  refine K_seq ?_
  refine R_region ?_
  refine r_move rfl rfl rfl ?_
  refine r_lenS sl_30 rfl rfl rfl ?_
  refine r_move rfl rfl rfl ?_
  refine r_lenS sl_26 rfl rfl rfl ?_
  refine s_neq rfl rfl rfl rfl (fun h10 => ?_) (fun h10 => ?_)
  · first
    | (exfalso; omega)
    |
      refine r_move rfl rfl rfl ?_
      refine r_skip rfl rfl ?_
      refine r_skip rfl rfl ?_
      refine r_pick_t rfl rfl rfl rfl ?_
      refine R_nil ?_
      refine K_tn ?_
      refine K_cond_t rfl ?_
      refine K_seq ?_
      refine R_region ?_
      refine r_assign rfl rfl rfl ?_
      refine R_nil ?_
      refine K_tn ?_
      refine K_ret ?_
      refine K_tr ?_
      refine K_done (H' := []) rfl rfl (.s (.tmp rfl) .z) (by repeat (first | exact .z | apply Rems.s Rem.z | apply Rems.s (Rem.s Rem.z) | apply Rems.s (Rem.s (Rem.s Rem.z)) | apply Rems.s (Rem.s (Rem.s (Rem.s Rem.z))) | apply Rems.s (Rem.s (Rem.s (Rem.s (Rem.s Rem.z)))) | apply Rems.s (Rem.s (Rem.s (Rem.s (Rem.s (Rem.s Rem.z))))) | apply Rems.s (Rem.s (Rem.s (Rem.s (Rem.s (Rem.s (Rem.s Rem.z)))))) | apply Rems.s (Rem.s (Rem.s (Rem.s (Rem.s (Rem.s (Rem.s (Rem.s Rem.z))))))) | apply Rems.s (Rem.s (Rem.s (Rem.s (Rem.s (Rem.s (Rem.s (Rem.s (Rem.s Rem.z)))))))) | apply Rems.s (Rem.s (Rem.s (Rem.s (Rem.s (Rem.s (Rem.s (Rem.s (Rem.s (Rem.s Rem.z))))))))))) ?_
      refine ⟨?_, rfl⟩
      first | (rw [rightG_len (by omega)] <;> rfl; done) | (rw [rightG_any (by assumption)] <;> rfl; done) | (rw [rightG_sh (k := k) (by omega) (by rw [he2]; assumption)] <;> rfl; done) | (rw [rightG_rng (i := k) (by omega) (by assumption)] <;> rfl; done) | (rw [rightG_yes (by omega) (fun i hi => hrg i (by omega)) (fun i hi => by rw [he2]; exact hno i (by omega))] <;> rfl; done)
  · first
    | (exfalso; omega)
    |
      refine r_move rfl rfl rfl ?_
      refine r_move rfl rfl rfl ?_
      refine s_callV cb_128 rfl rfl rfl rfl rfl (containsFuncI _ _ _ _ _ _ _ hs he2 hl2 129 [] [] [] (fun a => !inR a 0 6) cb_129 areRight1 (by omega)) (by repeat (first | exact .z | refine .s (.h .z) ?_ | refine .s (.h (.s .z)) ?_ | refine .s (.h (.s (.s .z))) ?_ | refine .s (.h (.s (.s (.s .z)))) ?_ | refine .s (.h (.s (.s (.s (.s .z))))) ?_ | refine .s (.h (.s (.s (.s (.s (.s .z)))))) ?_ | refine .s (.h (.s (.s (.s (.s (.s (.s .z))))))) ?_ | refine .s (.h (.s (.s (.s (.s (.s (.s (.s .z)))))))) ?_ | refine .s (.h (.s (.s (.s (.s (.s (.s (.s (.s .z))))))))) ?_ | refine .s (.x .z) ?_ | refine .s (.x (.s .z)) ?_ | refine .s (.x (.s (.s .z))) ?_ | refine .s (.x (.s (.s (.s .z)))) ?_ | refine .s (.x (.s (.s (.s (.s .z))))) ?_ | refine .s (.x (.s (.s (.s (.s (.s .z)))))) ?_ | refine .s (.x (.s (.s (.s (.s (.s (.s .z))))))) ?_)) (fun h13 => ?_) (fun h13 => ?_)
      · first
        | (exfalso; omega)
        |
          refine r_pick_f rfl rfl rfl rfl ?_
          refine R_nil ?_
          refine K_tn ?_
          refine K_cond_t rfl ?_
          refine K_seq ?_
          refine R_region ?_
          refine r_assign rfl rfl rfl ?_
          refine R_nil ?_
          refine K_tn ?_
          refine K_ret ?_
          refine K_tr ?_
          refine K_done (H' := []) rfl rfl (.s (.tmp rfl) .z) (by repeat (first | exact .z | apply Rems.s Rem.z | apply Rems.s (Rem.s Rem.z) | apply Rems.s (Rem.s (Rem.s Rem.z)) | apply Rems.s (Rem.s (Rem.s (Rem.s Rem.z))) | apply Rems.s (Rem.s (Rem.s (Rem.s (Rem.s Rem.z)))) | apply Rems.s (Rem.s (Rem.s (Rem.s (Rem.s (Rem.s Rem.z))))) | apply Rems.s (Rem.s (Rem.s (Rem.s (Rem.s (Rem.s (Rem.s Rem.z)))))) | apply Rems.s (Rem.s (Rem.s (Rem.s (Rem.s (Rem.s (Rem.s (Rem.s Rem.z))))))) | apply Rems.s (Rem.s (Rem.s (Rem.s (Rem.s (Rem.s (Rem.s (Rem.s (Rem.s Rem.z)))))))) | apply Rems.s (Rem.s (Rem.s (Rem.s (Rem.s (Rem.s (Rem.s (Rem.s (Rem.s (Rem.s Rem.z))))))))))) ?_
          refine ⟨?_, rfl⟩
          first | (rw [rightG_len (by omega)] <;> rfl; done) | (rw [rightG_any (by assumption)] <;> rfl; done) | (rw [rightG_sh (k := k) (by omega) (by rw [he2]; assumption)] <;> rfl; done) | (rw [rightG_rng (i := k) (by omega) (by assumption)] <;> rfl; done) | (rw [rightG_yes (by omega) (fun i hi => hrg i (by omega)) (fun i hi => by rw [he2]; exact hno i (by omega))] <;> rfl; done)
      · first
        | (exfalso; omega)
        |
          refine r_pick_f rfl rfl rfl rfl ?_
          refine R_nil ?_
          refine K_tn ?_
          refine K_cond_f rfl ?_
          refine K_skip ?_
          refine K_tn ?_
          refine K_seq ?_
          refine K_seq ?_
          refine R_region ?_
          have hrg := inR_any h13
          refine r_move rfl rfl rfl ?_
          refine R_nil ?_
          refine K_tn ?_
          refine K_block ?_
          refine K_loop (fun (k : Nat) => k ≤ 7 ∧ ∀ j, j < k → shareG (inH es hs (j : Int) len2) = true) (fun k => [(0, .slice (some ⟨b, off, none⟩) len cap), (1, .slice (some ⟨b2, off2, none⟩) len2 cap2), (15, .int .i64 (k : Int))]) (fun _ => []) (fun k => 7 - k) 0 (by exact ⟨Nat.zero_le _, fun j hj => absurd hj (Nat.not_lt_zero _)⟩) (by repeat (first | exact trivial | refine ⟨rfl, ?_⟩)) (by repeat (first | exact .z | apply Rems.s Rem.z | apply Rems.s (Rem.s Rem.z) | apply Rems.s (Rem.s (Rem.s Rem.z)) | apply Rems.s (Rem.s (Rem.s (Rem.s Rem.z))) | apply Rems.s (Rem.s (Rem.s (Rem.s (Rem.s Rem.z)))) | apply Rems.s (Rem.s (Rem.s (Rem.s (Rem.s (Rem.s Rem.z))))) | apply Rems.s (Rem.s (Rem.s (Rem.s (Rem.s (Rem.s (Rem.s Rem.z)))))) | apply Rems.s (Rem.s (Rem.s (Rem.s (Rem.s (Rem.s (Rem.s (Rem.s Rem.z))))))) | apply Rems.s (Rem.s (Rem.s (Rem.s (Rem.s (Rem.s (Rem.s (Rem.s (Rem.s Rem.z)))))))) | apply Rems.s (Rem.s (Rem.s (Rem.s (Rem.s (Rem.s (Rem.s (Rem.s (Rem.s (Rem.s Rem.z))))))))))) (fun k hp => ?_)
          obtain ⟨hk, hno⟩ := hp
          refine K_seq ?_
          refine R_region ?_
          refine s_lss rfl rfl rfl rfl (fun h16 => ?_) (fun h16 => ?_)
          · first
            | (exfalso; omega)
            |
              refine R_nil ?_
              refine K_tn ?_
              refine K_seq ?_
              refine K_cond_t rfl ?_
              refine K_skip ?_
              refine K_tn ?_
              refine K_seq ?_
              refine K_block ?_
              refine K_seq ?_
              refine R_region ?_
              refine r_move rfl rfl rfl ?_
              refine r_assign rfl rfl rfl ?_
              refine R_nil ?_
              refine K_tn ?_
              refine K_seq ?_
              refine R_region ?_
              refine r_move rfl rfl rfl ?_
              refine r_move rfl rfl rfl ?_
              refine r_move rfl rfl rfl ?_
              refine r_callR cb_85 rfl rfl rfl rfl rfl (inHold _ _ _ _ _ _ _ es he hl _ _ _ _ _ _ _ hs he2 hl2 (k : Int) (by omega) (by omega)) (by repeat (first | exact .z | refine .s (.h .z) ?_ | refine .s (.h (.s .z)) ?_ | refine .s (.h (.s (.s .z))) ?_ | refine .s (.h (.s (.s (.s .z)))) ?_ | refine .s (.h (.s (.s (.s (.s .z))))) ?_ | refine .s (.h (.s (.s (.s (.s (.s .z)))))) ?_ | refine .s (.h (.s (.s (.s (.s (.s (.s .z))))))) ?_ | refine .s (.h (.s (.s (.s (.s (.s (.s (.s .z)))))))) ?_ | refine .s (.h (.s (.s (.s (.s (.s (.s (.s (.s .z))))))))) ?_ | refine .s (.x .z) ?_ | refine .s (.x (.s .z)) ?_ | refine .s (.x (.s (.s .z))) ?_ | refine .s (.x (.s (.s (.s .z)))) ?_ | refine .s (.x (.s (.s (.s (.s .z))))) ?_ | refine .s (.x (.s (.s (.s (.s (.s .z)))))) ?_ | refine .s (.x (.s (.s (.s (.s (.s (.s .z))))))) ?_)) ?_
              rintro _ _ ⟨b21, cap21, junk21, u21, rfl, hj21, hc21, rfl⟩
              refine s_callV cb_77 rfl rfl rfl rfl rfl (mayShareI _ _ _ _ _ _ _ (inH es hs (k : Int) len2) rfl (fun i hi => fm_take gd_len gz hi) (inH_valid hv _ (by omega)) (by have := inH_le (es := es) (hs := hs) (h := (k : Int)) len2; omega)) (by repeat (first | exact .z | refine .s (.h .z) ?_ | refine .s (.h (.s .z)) ?_ | refine .s (.h (.s (.s .z))) ?_ | refine .s (.h (.s (.s (.s .z)))) ?_ | refine .s (.h (.s (.s (.s (.s .z))))) ?_ | refine .s (.h (.s (.s (.s (.s (.s .z)))))) ?_ | refine .s (.h (.s (.s (.s (.s (.s (.s .z))))))) ?_ | refine .s (.h (.s (.s (.s (.s (.s (.s (.s .z)))))))) ?_ | refine .s (.h (.s (.s (.s (.s (.s (.s (.s (.s .z))))))))) ?_ | refine .s (.x .z) ?_ | refine .s (.x (.s .z)) ?_ | refine .s (.x (.s (.s .z))) ?_ | refine .s (.x (.s (.s (.s .z)))) ?_ | refine .s (.x (.s (.s (.s (.s .z))))) ?_ | refine .s (.x (.s (.s (.s (.s (.s .z)))))) ?_ | refine .s (.x (.s (.s (.s (.s (.s (.s .z))))))) ?_)) (fun h22 => ?_) (fun h22 => ?_)
              · first
                | (exfalso; omega)
                |
                  refine r_not rfl rfl rfl ?_
                  refine R_nil ?_
                  refine K_tn ?_
                  refine K_cond_f rfl ?_
                  refine K_skip ?_
                  refine K_bn ?_
                  refine K_tn ?_
                  refine R_region ?_
                  first | refine r_addN rfl rfl rfl rfl (i64K (by omega) (by omega)) ?_ | refine r_add rfl rfl rfl rfl (i64K (by omega) (by omega)) ?_
                  refine r_move rfl rfl rfl ?_
                  refine R_nil ?_
                  refine K_tn ?_
                  exact K_again (k + 1) (by exact ⟨by omega, fun j hj => by rcases Nat.lt_succ_iff_lt_or_eq.1 hj with h | h; exact hno j h; subst h; first | assumption | (simp [*, -List.getD_eq_getElem?_getD]; done)⟩) (by omega) (by repeat (first | exact trivial | refine ⟨rfl, ?_⟩)) (by repeat (first | exact .z | apply Rems.s Rem.z | apply Rems.s (Rem.s Rem.z) | apply Rems.s (Rem.s (Rem.s Rem.z)) | apply Rems.s (Rem.s (Rem.s (Rem.s Rem.z))) | apply Rems.s (Rem.s (Rem.s (Rem.s (Rem.s Rem.z)))) | apply Rems.s (Rem.s (Rem.s (Rem.s (Rem.s (Rem.s Rem.z))))) | apply Rems.s (Rem.s (Rem.s (Rem.s (Rem.s (Rem.s (Rem.s Rem.z)))))) | apply Rems.s (Rem.s (Rem.s (Rem.s (Rem.s (Rem.s (Rem.s (Rem.s Rem.z))))))) | apply Rems.s (Rem.s (Rem.s (Rem.s (Rem.s (Rem.s (Rem.s (Rem.s (Rem.s Rem.z)))))))) | apply Rems.s (Rem.s (Rem.s (Rem.s (Rem.s (Rem.s (Rem.s (Rem.s (Rem.s (Rem.s Rem.z)))))))))))
              · first
                | (exfalso; omega)
                |
                  refine r_not rfl rfl rfl ?_
                  refine R_nil ?_
                  refine K_tn ?_
                  refine K_cond_t rfl ?_
                  refine K_seq ?_
                  refine R_region ?_
                  refine r_assign rfl rfl rfl ?_
                  refine R_nil ?_
                  refine K_tn ?_
                  refine K_ret ?_
                  refine K_br ?_
                  refine K_tr ?_
                  refine K_tr ?_
                  refine K_br ?_
                  refine K_tr ?_
                  refine K_done (H' := []) rfl rfl (.s (.tmp rfl) .z) (by repeat (first | exact .z | apply Rems.s Rem.z | apply Rems.s (Rem.s Rem.z) | apply Rems.s (Rem.s (Rem.s Rem.z)) | apply Rems.s (Rem.s (Rem.s (Rem.s Rem.z))) | apply Rems.s (Rem.s (Rem.s (Rem.s (Rem.s Rem.z)))) | apply Rems.s (Rem.s (Rem.s (Rem.s (Rem.s (Rem.s Rem.z))))) | apply Rems.s (Rem.s (Rem.s (Rem.s (Rem.s (Rem.s (Rem.s Rem.z)))))) | apply Rems.s (Rem.s (Rem.s (Rem.s (Rem.s (Rem.s (Rem.s (Rem.s Rem.z))))))) | apply Rems.s (Rem.s (Rem.s (Rem.s (Rem.s (Rem.s (Rem.s (Rem.s (Rem.s Rem.z)))))))) | apply Rems.s (Rem.s (Rem.s (Rem.s (Rem.s (Rem.s (Rem.s (Rem.s (Rem.s (Rem.s Rem.z))))))))))) ?_
                  refine ⟨?_, rfl⟩
                  first | (rw [rightG_len (by omega)] <;> rfl; done) | (rw [rightG_any (by assumption)] <;> rfl; done) | (rw [rightG_sh (k := k) (by omega) (by rw [he2]; assumption)] <;> rfl; done) | (rw [rightG_rng (i := k) (by omega) (by assumption)] <;> rfl; done) | (rw [rightG_yes (by omega) (fun i hi => hrg i (by omega)) (fun i hi => by rw [he2]; exact hno i (by omega))] <;> rfl; done)
          · first
            | (exfalso; omega)
            |
              refine R_nil ?_
              refine K_tn ?_
              refine K_seq ?_
              refine K_cond_f rfl ?_
              refine K_exit ?_
              refine K_te ?_
              refine K_te ?_
              refine K_be ?_
              refine K_tn ?_
              refine K_seq ?_
              refine R_region ?_
              refine r_assign rfl rfl rfl ?_
              refine R_nil ?_
              refine K_tn ?_
              refine K_ret ?_
              refine K_done (H' := []) rfl rfl (.s (.tmp rfl) .z) (by repeat (first | exact .z | apply Rems.s Rem.z | apply Rems.s (Rem.s Rem.z) | apply Rems.s (Rem.s (Rem.s Rem.z)) | apply Rems.s (Rem.s (Rem.s (Rem.s Rem.z))) | apply Rems.s (Rem.s (Rem.s (Rem.s (Rem.s Rem.z)))) | apply Rems.s (Rem.s (Rem.s (Rem.s (Rem.s (Rem.s Rem.z))))) | apply Rems.s (Rem.s (Rem.s (Rem.s (Rem.s (Rem.s (Rem.s Rem.z)))))) | apply Rems.s (Rem.s (Rem.s (Rem.s (Rem.s (Rem.s (Rem.s (Rem.s Rem.z))))))) | apply Rems.s (Rem.s (Rem.s (Rem.s (Rem.s (Rem.s (Rem.s (Rem.s (Rem.s Rem.z)))))))) | apply Rems.s (Rem.s (Rem.s (Rem.s (Rem.s (Rem.s (Rem.s (Rem.s (Rem.s (Rem.s Rem.z))))))))))) ?_
              refine ⟨?_, rfl⟩
              first | (rw [rightG_len (by omega)] <;> rfl; done) | (rw [rightG_any (by assumption)] <;> rfl; done) | (rw [rightG_sh (k := k) (by omega) (by rw [he2]; assumption)] <;> rfl; done) | (rw [rightG_rng (i := k) (by omega) (by assumption)] <;> rfl; done) | (rw [rightG_yes (by omega) (fun i hi => hrg i (by omega)) (fun i hi => by rw [he2]; exact hno i (by omega))] <;> rfl; done)

set_option maxRecDepth 20000 in
theorem impl_CheckHolds (b off len cap : Nat) (l : List Value) (u : TypeId) (fr : Nat × Nat) (es : List Gd) (he : es.length = len) (hl : ∀ i, i < len → takeAt l (off + i * 2) 2 = some (gd (es.getD i gz))) (b2 off2 len2 cap2 : Nat) (l2 : List Value) (u2 : TypeId) (fr2 : Nat × Nat) (hs : List Int) (he2 : hs.length = len2) (hl2 : ∀ i, i < len2 → l2[off2 + i * 1]? = some (.int .i64 (hs.getD i 0))) (hb : len ≤ 1048576) (hb2 : len2 ≤ 1048576) : SpecV Try.prog 25 [.slice (some ⟨b, off, none⟩) len cap, .slice (some ⟨b2, off2, none⟩) len2 cap2] [(b, .cells l.toArray u fr), (b2, .cells l2.toArray u2 fr2)] (packV [.bool (chkG es hs), .int .i64 (gCode es)]) := by
  refine spec_of Try.func25 rfl Try.ntmps25 rfl (fun w0 => ?_)
  refine K_seq ?_
  refine R_region ?_
  refine r_assign rfl rfl rfl ?_
  refine r_assign rfl rfl rfl ?_
  refine R_nil ?_
  refine K_tn ?_
  refine K_seq ?_
  refine K_seq ?_
  refine R_region ?_
  refine r_move rfl rfl rfl ?_
  refine r_callV cb_76 rfl rfl rfl rfl rfl (goodsCode _ _ _ _ _ _ _ es he hl (by omega)) (by repeat (first | exact .z | refine .s (.h .z) ?_ | refine .s (.h (.s .z)) ?_ | refine .s (.h (.s (.s .z))) ?_ | refine .s (.h (.s (.s (.s .z)))) ?_ | refine .s (.h (.s (.s (.s (.s .z))))) ?_ | refine .s (.h (.s (.s (.s (.s (.s .z)))))) ?_ | refine .s (.h (.s (.s (.s (.s (.s (.s .z))))))) ?_ | refine .s (.h (.s (.s (.s (.s (.s (.s (.s .z)))))))) ?_ | refine .s (.h (.s (.s (.s (.s (.s (.s (.s (.s .z))))))))) ?_ | refine .s (.x .z) ?_ | refine .s (.x (.s .z)) ?_ | refine .s (.x (.s (.s .z))) ?_ | refine .s (.x (.s (.s (.s .z)))) ?_ | refine .s (.x (.s (.s (.s (.s .z))))) ?_ | refine .s (.x (.s (.s (.s (.s (.s .z)))))) ?_ | refine .s (.x (.s (.s (.s (.s (.s (.s .z))))))) ?_)) ?_
  refine r_assign rfl rfl rfl ?_
  refine R_nil ?_
  refine K_tn ?_
  refine K_seq ?_
  refine R_region ?_
  refine r_move rfl rfl rfl ?_
  refine s_neq rfl rfl rfl rfl (fun h10 => ?_) (fun h10 => ?_)
  · first
    | (exfalso; omega)
    |
      refine R_nil ?_
      refine K_tn ?_
      refine K_cond_t rfl ?_
      refine K_seq ?_
      refine R_region ?_
      refine r_move rfl rfl rfl ?_
      refine r_assign rfl rfl rfl ?_
      refine r_assign rfl rfl rfl ?_
      refine R_nil ?_
      refine K_tn ?_
      refine K_ret ?_
      refine K_tr ?_
      refine K_done (H' := []) rfl rfl (.s (.tmp rfl) (.s (.tmp rfl) .z)) (by repeat (first | exact .z | apply Rems.s Rem.z | apply Rems.s (Rem.s Rem.z) | apply Rems.s (Rem.s (Rem.s Rem.z)) | apply Rems.s (Rem.s (Rem.s (Rem.s Rem.z))) | apply Rems.s (Rem.s (Rem.s (Rem.s (Rem.s Rem.z)))) | apply Rems.s (Rem.s (Rem.s (Rem.s (Rem.s (Rem.s Rem.z))))) | apply Rems.s (Rem.s (Rem.s (Rem.s (Rem.s (Rem.s (Rem.s Rem.z)))))) | apply Rems.s (Rem.s (Rem.s (Rem.s (Rem.s (Rem.s (Rem.s (Rem.s Rem.z))))))) | apply Rems.s (Rem.s (Rem.s (Rem.s (Rem.s (Rem.s (Rem.s (Rem.s (Rem.s Rem.z)))))))) | apply Rems.s (Rem.s (Rem.s (Rem.s (Rem.s (Rem.s (Rem.s (Rem.s (Rem.s (Rem.s Rem.z))))))))))) ?_
      refine ⟨?_, rfl⟩
      first | (unfold chkG; rw [if_neg (by omega)] <;> rfl; done) | (unfold chkG; rw [if_pos (by omega), show gCode es = 0 by omega] <;> rfl; done)
  · first
    | (exfalso; omega)
    |
      refine R_nil ?_
      refine K_tn ?_
      refine K_cond_f rfl ?_
      refine K_skip ?_
      refine K_tn ?_
      refine K_seq ?_
      refine R_region ?_
      refine r_move rfl rfl rfl ?_
      refine r_move rfl rfl rfl ?_
      refine r_callV cb_81 rfl rfl rfl rfl rfl (areRight _ _ _ _ _ _ _ es he hl _ _ _ _ _ _ _ hs he2 hl2 (gCode_valid (by omega)).1 (by have := (gCode_valid (es := es) (by omega)).2; omega) hb2) (by repeat (first | exact .z | refine .s (.h .z) ?_ | refine .s (.h (.s .z)) ?_ | refine .s (.h (.s (.s .z))) ?_ | refine .s (.h (.s (.s (.s .z)))) ?_ | refine .s (.h (.s (.s (.s (.s .z))))) ?_ | refine .s (.h (.s (.s (.s (.s (.s .z)))))) ?_ | refine .s (.h (.s (.s (.s (.s (.s (.s .z))))))) ?_ | refine .s (.h (.s (.s (.s (.s (.s (.s (.s .z)))))))) ?_ | refine .s (.h (.s (.s (.s (.s (.s (.s (.s (.s .z))))))))) ?_ | refine .s (.x .z) ?_ | refine .s (.x (.s .z)) ?_ | refine .s (.x (.s (.s .z))) ?_ | refine .s (.x (.s (.s (.s .z)))) ?_ | refine .s (.x (.s (.s (.s (.s .z))))) ?_ | refine .s (.x (.s (.s (.s (.s (.s .z)))))) ?_ | refine .s (.x (.s (.s (.s (.s (.s (.s .z))))))) ?_)) ?_
      refine r_assign rfl rfl rfl ?_
      refine r_assign rfl rfl rfl ?_
      refine R_nil ?_
      refine K_tn ?_
      refine K_ret ?_
      refine K_done (H' := []) rfl rfl (.s (.tmp rfl) (.s (.tmp rfl) .z)) (by repeat (first | exact .z | apply Rems.s Rem.z | apply Rems.s (Rem.s Rem.z) | apply Rems.s (Rem.s (Rem.s Rem.z)) | apply Rems.s (Rem.s (Rem.s (Rem.s Rem.z))) | apply Rems.s (Rem.s (Rem.s (Rem.s (Rem.s Rem.z)))) | apply Rems.s (Rem.s (Rem.s (Rem.s (Rem.s (Rem.s Rem.z))))) | apply Rems.s (Rem.s (Rem.s (Rem.s (Rem.s (Rem.s (Rem.s Rem.z)))))) | apply Rems.s (Rem.s (Rem.s (Rem.s (Rem.s (Rem.s (Rem.s (Rem.s Rem.z))))))) | apply Rems.s (Rem.s (Rem.s (Rem.s (Rem.s (Rem.s (Rem.s (Rem.s (Rem.s Rem.z)))))))) | apply Rems.s (Rem.s (Rem.s (Rem.s (Rem.s (Rem.s (Rem.s (Rem.s (Rem.s (Rem.s Rem.z))))))))))) ?_
      refine ⟨?_, rfl⟩
      first | (unfold chkG; rw [if_neg (by omega)] <;> rfl; done) | (unfold chkG; rw [if_pos (by omega), show gCode es = 0 by omega] <;> rfl; done)

set_option maxRecDepth 20000 in
theorem spec_CheckHolds (b off len cap : Nat) (l : List Value) (u : TypeId) (fr : Nat × Nat) (es : List Gd) (he : es.length = len) (hl : ∀ i, i < len → takeAt l (off + i * 2) 2 = some (gd (es.getD i gz))) (b2 off2 len2 cap2 : Nat) (l2 : List Value) (u2 : TypeId) (fr2 : Nat × Nat) (hs : List Int) (he2 : hs.length = len2) (hl2 : ∀ i, i < len2 → l2[off2 + i * 1]? = some (.int .i64 (hs.getD i 0))) (hb : len ≤ 1048576) (hb2 : len2 ≤ 1048576) : SpecV Try.prog 23 [.slice (some ⟨b, off, none⟩) len cap, .slice (some ⟨b2, off2, none⟩) len2 cap2] [(b, .cells l.toArray u fr), (b2, .cells l2.toArray u2 fr2)] (packV [.bool (chkG es hs), .int .i64 (gCode es)]) := by
  refine spec_of Try.func23 rfl Try.ntmps23 rfl (fun w0 => ?_)
  refine K_seq ?_
  refine R_region ?_
  refine r_assign rfl rfl rfl ?_
  refine r_assign rfl rfl rfl ?_
  refine R_nil ?_
  refine K_tn ?_
  refine K_seq ?_
  refine K_seq ?_
  refine R_region ?_
  refine r_move rfl rfl rfl ?_
  refine r_callV cb_73 rfl rfl rfl rfl rfl (l04Goods _ _ _ _ _ _ _ es he hl (by omega)) (by repeat (first | exact .z | refine .s (.h .z) ?_ | refine .s (.h (.s .z)) ?_ | refine .s (.h (.s (.s .z))) ?_ | refine .s (.h (.s (.s (.s .z)))) ?_ | refine .s (.h (.s (.s (.s (.s .z))))) ?_ | refine .s (.h (.s (.s (.s (.s (.s .z)))))) ?_ | refine .s (.h (.s (.s (.s (.s (.s (.s .z))))))) ?_ | refine .s (.h (.s (.s (.s (.s (.s (.s (.s .z)))))))) ?_ | refine .s (.h (.s (.s (.s (.s (.s (.s (.s (.s .z))))))))) ?_ | refine .s (.x .z) ?_ | refine .s (.x (.s .z)) ?_ | refine .s (.x (.s (.s .z))) ?_ | refine .s (.x (.s (.s (.s .z)))) ?_ | refine .s (.x (.s (.s (.s (.s .z))))) ?_ | refine .s (.x (.s (.s (.s (.s (.s .z)))))) ?_ | refine .s (.x (.s (.s (.s (.s (.s (.s .z))))))) ?_)) ?_
  refine r_assign rfl rfl rfl ?_
  refine R_nil ?_
  refine K_tn ?_
  refine K_seq ?_
  refine R_region ?_
  refine r_move rfl rfl rfl ?_
  refine s_neq rfl rfl rfl rfl (fun h12 => ?_) (fun h12 => ?_)
  · first
    | (exfalso; omega)
    |
      refine R_nil ?_
      refine K_tn ?_
      refine K_cond_t rfl ?_
      refine K_seq ?_
      refine R_region ?_
      refine r_move rfl rfl rfl ?_
      refine r_assign rfl rfl rfl ?_
      refine r_assign rfl rfl rfl ?_
      refine R_nil ?_
      refine K_tn ?_
      refine K_ret ?_
      refine K_tr ?_
      refine K_done (H' := []) rfl rfl (.s (.tmp rfl) (.s (.tmp rfl) .z)) (by repeat (first | exact .z | apply Rems.s Rem.z | apply Rems.s (Rem.s Rem.z) | apply Rems.s (Rem.s (Rem.s Rem.z)) | apply Rems.s (Rem.s (Rem.s (Rem.s Rem.z))) | apply Rems.s (Rem.s (Rem.s (Rem.s (Rem.s Rem.z)))) | apply Rems.s (Rem.s (Rem.s (Rem.s (Rem.s (Rem.s Rem.z))))) | apply Rems.s (Rem.s (Rem.s (Rem.s (Rem.s (Rem.s (Rem.s Rem.z)))))) | apply Rems.s (Rem.s (Rem.s (Rem.s (Rem.s (Rem.s (Rem.s (Rem.s Rem.z))))))) | apply Rems.s (Rem.s (Rem.s (Rem.s (Rem.s (Rem.s (Rem.s (Rem.s (Rem.s Rem.z)))))))) | apply Rems.s (Rem.s (Rem.s (Rem.s (Rem.s (Rem.s (Rem.s (Rem.s (Rem.s (Rem.s Rem.z))))))))))) ?_
      refine ⟨?_, rfl⟩
      first | (rw [show chkG es hs = false from by unfold chkG; rw [if_neg (by omega)]] <;> rfl; done) | (unfold chkG; rw [if_pos hgc, hgc]; rw [rightG_len (by omega)] <;> rfl; done) | (unfold chkG; rw [if_pos hgc, hgc]; rw [rightG_any (by assumption)] <;> rfl; done) | (unfold chkG; rw [if_pos hgc, hgc]; rw [rightG_sh (k := k) (by omega) (by rw [he2]; assumption)] <;> rfl; done) | (unfold chkG; rw [if_pos hgc, hgc]; rw [rightG_rng (i := k) (by omega) (by assumption)] <;> rfl; done) | (unfold chkG; rw [if_pos hgc, hgc]; rw [rightG_yes (by omega) (fun i hi => hrg i (by omega)) (fun i hi => by rw [he2]; exact hno i (by omega))] <;> rfl; done)
  · first
    | (exfalso; omega)
    |
      refine R_nil ?_
      refine K_tn ?_
      refine K_cond_f rfl ?_
      refine K_skip ?_
      refine K_tn ?_
      refine K_seq ?_
      refine K_seq ?_
      refine R_region ?_
      have hgc : gCode es = 0 := by omega
      obtain ⟨hv, h7l⟩ := gCode_valid hgc
      refine r_move rfl rfl rfl ?_
      refine r_lenS sl_30 rfl rfl rfl ?_
      refine r_move rfl rfl rfl ?_
      refine r_lenS sl_26 rfl rfl rfl ?_
      refine s_neq rfl rfl rfl rfl (fun h18 => ?_) (fun h18 => ?_)
      · first
        | (exfalso; omega)
        |
          refine R_nil ?_
          refine K_tn ?_
          refine K_cond_t rfl ?_
          refine K_seq ?_
          refine R_region ?_
          refine r_assign rfl rfl rfl ?_
          refine r_assign rfl rfl rfl ?_
          refine R_nil ?_
          refine K_tn ?_
          refine K_ret ?_
          refine K_tr ?_
          refine K_done (H' := []) rfl rfl (.s (.tmp rfl) (.s (.tmp rfl) .z)) (by repeat (first | exact .z | apply Rems.s Rem.z | apply Rems.s (Rem.s Rem.z) | apply Rems.s (Rem.s (Rem.s Rem.z)) | apply Rems.s (Rem.s (Rem.s (Rem.s Rem.z))) | apply Rems.s (Rem.s (Rem.s (Rem.s (Rem.s Rem.z)))) | apply Rems.s (Rem.s (Rem.s (Rem.s (Rem.s (Rem.s Rem.z))))) | apply Rems.s (Rem.s (Rem.s (Rem.s (Rem.s (Rem.s (Rem.s Rem.z)))))) | apply Rems.s (Rem.s (Rem.s (Rem.s (Rem.s (Rem.s (Rem.s (Rem.s Rem.z))))))) | apply Rems.s (Rem.s (Rem.s (Rem.s (Rem.s (Rem.s (Rem.s (Rem.s (Rem.s Rem.z)))))))) | apply Rems.s (Rem.s (Rem.s (Rem.s (Rem.s (Rem.s (Rem.s (Rem.s (Rem.s (Rem.s Rem.z))))))))))) ?_
          refine ⟨?_, rfl⟩
          first | (rw [show chkG es hs = false from by unfold chkG; rw [if_neg (by omega)]] <;> rfl; done) | (unfold chkG; rw [if_pos hgc, hgc]; rw [rightG_len (by omega)] <;> rfl; done) | (unfold chkG; rw [if_pos hgc, hgc]; rw [rightG_any (by assumption)] <;> rfl; done) | (unfold chkG; rw [if_pos hgc, hgc]; rw [rightG_sh (k := k) (by omega) (by rw [he2]; assumption)] <;> rfl; done) | (unfold chkG; rw [if_pos hgc, hgc]; rw [rightG_rng (i := k) (by omega) (by assumption)] <;> rfl; done) | (unfold chkG; rw [if_pos hgc, hgc]; rw [rightG_yes (by omega) (fun i hi => hrg i (by omega)) (fun i hi => by rw [he2]; exact hno i (by omega))] <;> rfl; done)
      · first
        | (exfalso; omega)
        |
          refine R_nil ?_
          refine K_tn ?_
          refine K_cond_f rfl ?_
          refine K_skip ?_
          refine K_tn ?_
          refine K_seq ?_
          refine K_seq ?_
          refine R_region ?_
          refine r_assign rfl rfl rfl ?_
          refine R_nil ?_
          refine K_tn ?_
          refine K_block ?_
          refine K_loop (fun (k : Nat) => k ≤ len2 ∧ ∀ j, j < k → inR (hs.getD j 0) 0 6 = true) (fun k => [(0, .slice (some ⟨b, off, none⟩) len cap), (1, .slice (some ⟨b2, off2, none⟩) len2 cap2), (7, .int .i64 (k : Int))]) (fun _ => []) (fun k => len2 - k) 0 (by exact ⟨Nat.zero_le _, fun j hj => absurd hj (Nat.not_lt_zero _)⟩) (by repeat (first | exact trivial | refine ⟨rfl, ?_⟩)) (by repeat (first | exact .z | apply Rems.s Rem.z | apply Rems.s (Rem.s Rem.z) | apply Rems.s (Rem.s (Rem.s Rem.z)) | apply Rems.s (Rem.s (Rem.s (Rem.s Rem.z))) | apply Rems.s (Rem.s (Rem.s (Rem.s (Rem.s Rem.z)))) | apply Rems.s (Rem.s (Rem.s (Rem.s (Rem.s (Rem.s Rem.z))))) | apply Rems.s (Rem.s (Rem.s (Rem.s (Rem.s (Rem.s (Rem.s Rem.z)))))) | apply Rems.s (Rem.s (Rem.s (Rem.s (Rem.s (Rem.s (Rem.s (Rem.s Rem.z))))))) | apply Rems.s (Rem.s (Rem.s (Rem.s (Rem.s (Rem.s (Rem.s (Rem.s (Rem.s Rem.z)))))))) | apply Rems.s (Rem.s (Rem.s (Rem.s (Rem.s (Rem.s (Rem.s (Rem.s (Rem.s (Rem.s Rem.z))))))))))) (fun k hp => ?_)
          obtain ⟨hk, hno⟩ := hp
          refine K_seq ?_
          refine K_seq ?_
          refine R_region ?_
          refine r_move rfl rfl rfl ?_
          refine r_move rfl rfl rfl ?_
          refine r_lenS sl_30 rfl rfl rfl ?_
          refine s_lss rfl rfl rfl rfl (fun h22 => ?_) (fun h22 => ?_)
          · first
            | (exfalso; omega)
            |
              refine R_nil ?_
              refine K_tn ?_
              refine K_cond_t rfl ?_
              refine K_skip ?_
              refine K_tn ?_
              refine K_seq ?_
              refine K_block ?_
              refine K_seq ?_
              refine R_region ?_
              refine r_move rfl rfl rfl ?_
              refine r_move rfl rfl rfl ?_
              refine r_indexS sl_30 sz_2 rfl rfl rfl rfl (by omega) ?_
              refine r_load ag_2 rfl rfl rfl (by first | exact .h .z | exact .h (.s .z) | exact .h (.s (.s .z)) | exact .h (.s (.s (.s .z))) | exact .h (.s (.s (.s (.s .z)))) | exact .h (.s (.s (.s (.s (.s .z))))) | exact .h (.s (.s (.s (.s (.s (.s .z)))))) | exact .h (.s (.s (.s (.s (.s (.s (.s .z))))))) | exact .h (.s (.s (.s (.s (.s (.s (.s (.s .z)))))))) | exact .x .z | exact .x (.s .z) | exact .x (.s (.s .z)) | exact .x (.s (.s (.s .z))) | exact .x (.s (.s (.s (.s .z)))) | exact .x (.s (.s (.s (.s (.s .z))))) | exact .x (.s (.s (.s (.s (.s (.s .z))))))) (by first | rfl | exact hl _ (by omega) | exact hl2 _ (by omega)) ?_
              refine s_callV cb_79 rfl rfl rfl rfl rfl (l00In _ _ _) (by repeat (first | exact .z | refine .s (.h .z) ?_ | refine .s (.h (.s .z)) ?_ | refine .s (.h (.s (.s .z))) ?_ | refine .s (.h (.s (.s (.s .z)))) ?_ | refine .s (.h (.s (.s (.s (.s .z))))) ?_ | refine .s (.h (.s (.s (.s (.s (.s .z)))))) ?_ | refine .s (.h (.s (.s (.s (.s (.s (.s .z))))))) ?_ | refine .s (.h (.s (.s (.s (.s (.s (.s (.s .z)))))))) ?_ | refine .s (.h (.s (.s (.s (.s (.s (.s (.s (.s .z))))))))) ?_ | refine .s (.x .z) ?_ | refine .s (.x (.s .z)) ?_ | refine .s (.x (.s (.s .z))) ?_ | refine .s (.x (.s (.s (.s .z)))) ?_ | refine .s (.x (.s (.s (.s (.s .z))))) ?_ | refine .s (.x (.s (.s (.s (.s (.s .z)))))) ?_ | refine .s (.x (.s (.s (.s (.s (.s (.s .z))))))) ?_)) (fun h29 => ?_) (fun h29 => ?_)
              · first
                | (exfalso; omega)
                |
                  refine r_not rfl rfl rfl ?_
                  refine R_nil ?_
                  refine K_tn ?_
                  refine K_cond_f rfl ?_
                  refine K_skip ?_
                  refine K_bn ?_
                  refine K_tn ?_
                  refine R_region ?_
                  refine r_move rfl rfl rfl ?_
                  first | refine r_addN rfl rfl rfl rfl (i64K (by omega) (by omega)) ?_ | refine r_add rfl rfl rfl rfl (i64K (by omega) (by omega)) ?_
                  refine r_assign rfl rfl rfl ?_
                  refine R_nil ?_
                  refine K_tn ?_
                  exact K_again (k + 1) (by exact ⟨by omega, fun j hj => by rcases Nat.lt_succ_iff_lt_or_eq.1 hj with h | h; exact hno j h; subst h; first | assumption | (simp [*, -List.getD_eq_getElem?_getD]; done)⟩) (by omega) (by repeat (first | exact trivial | refine ⟨rfl, ?_⟩)) (by repeat (first | exact .z | apply Rems.s Rem.z | apply Rems.s (Rem.s Rem.z) | apply Rems.s (Rem.s (Rem.s Rem.z)) | apply Rems.s (Rem.s (Rem.s (Rem.s Rem.z))) | apply Rems.s (Rem.s (Rem.s (Rem.s (Rem.s Rem.z)))) | apply Rems.s (Rem.s (Rem.s (Rem.s (Rem.s (Rem.s Rem.z))))) | apply Rems.s (Rem.s (Rem.s (Rem.s (Rem.s (Rem.s (Rem.s Rem.z)))))) | apply Rems.s (Rem.s (Rem.s (Rem.s (Rem.s (Rem.s (Rem.s (Rem.s Rem.z))))))) | apply Rems.s (Rem.s (Rem.s (Rem.s (Rem.s (Rem.s (Rem.s (Rem.s (Rem.s Rem.z)))))))) | apply Rems.s (Rem.s (Rem.s (Rem.s (Rem.s (Rem.s (Rem.s (Rem.s (Rem.s (Rem.s Rem.z)))))))))))
              · first
                | (exfalso; omega)
                |
                  refine r_not rfl rfl rfl ?_
                  refine R_nil ?_
                  refine K_tn ?_
                  refine K_cond_t rfl ?_
                  refine K_seq ?_
                  refine R_region ?_
                  refine r_assign rfl rfl rfl ?_
                  refine r_assign rfl rfl rfl ?_
                  refine R_nil ?_
                  refine K_tn ?_
                  refine K_ret ?_
                  refine K_br ?_
                  refine K_tr ?_
                  refine K_tr ?_
                  refine K_br ?_
                  refine K_tr ?_
                  refine K_done (H' := []) rfl rfl (.s (.tmp rfl) (.s (.tmp rfl) .z)) (by repeat (first | exact .z | apply Rems.s Rem.z | apply Rems.s (Rem.s Rem.z) | apply Rems.s (Rem.s (Rem.s Rem.z)) | apply Rems.s (Rem.s (Rem.s (Rem.s Rem.z))) | apply Rems.s (Rem.s (Rem.s (Rem.s (Rem.s Rem.z)))) | apply Rems.s (Rem.s (Rem.s (Rem.s (Rem.s (Rem.s Rem.z))))) | apply Rems.s (Rem.s (Rem.s (Rem.s (Rem.s (Rem.s (Rem.s Rem.z)))))) | apply Rems.s (Rem.s (Rem.s (Rem.s (Rem.s (Rem.s (Rem.s (Rem.s Rem.z))))))) | apply Rems.s (Rem.s (Rem.s (Rem.s (Rem.s (Rem.s (Rem.s (Rem.s (Rem.s Rem.z)))))))) | apply Rems.s (Rem.s (Rem.s (Rem.s (Rem.s (Rem.s (Rem.s (Rem.s (Rem.s (Rem.s Rem.z))))))))))) ?_
                  refine ⟨?_, rfl⟩
                  first | (rw [show chkG es hs = false from by unfold chkG; rw [if_neg (by omega)]] <;> rfl; done) | (unfold chkG; rw [if_pos hgc, hgc]; rw [rightG_len (by omega)] <;> rfl; done) | (unfold chkG; rw [if_pos hgc, hgc]; rw [rightG_any (by assumption)] <;> rfl; done) | (unfold chkG; rw [if_pos hgc, hgc]; rw [rightG_sh (k := k) (by omega) (by rw [he2]; assumption)] <;> rfl; done) | (unfold chkG; rw [if_pos hgc, hgc]; rw [rightG_rng (i := k) (by omega) (by assumption)] <;> rfl; done) | (unfold chkG; rw [if_pos hgc, hgc]; rw [rightG_yes (by omega) (fun i hi => hrg i (by omega)) (fun i hi => by rw [he2]; exact hno i (by omega))] <;> rfl; done)
          · first
            | (exfalso; omega)
            |
              refine R_nil ?_
              refine K_tn ?_
              refine K_cond_f rfl ?_
              refine K_exit ?_
              refine K_te ?_
              refine K_te ?_
              refine K_be ?_
              refine K_tn ?_
              refine K_seq ?_
              refine K_seq ?_
              refine R_region ?_
              have hrg : ∀ i, i < hs.length → inR (hs.getD i 0) 0 6 = true := fun i hi => hno i (by omega)
              clear hno
              refine r_assign rfl rfl rfl ?_
              refine R_nil ?_
              refine K_tn ?_
              refine K_block ?_
              refine K_loop (fun (k : Nat) => k ≤ 7 ∧ ∀ j, j < k → shareG (inH es hs (j : Int) len2) = true) (fun k => [(0, .slice (some ⟨b, off, none⟩) len cap), (1, .slice (some ⟨b2, off2, none⟩) len2 cap2), (8, .int .i64 (k : Int))]) (fun _ => []) (fun k => 7 - k) 0 (by exact ⟨Nat.zero_le _, fun j hj => absurd hj (Nat.not_lt_zero _)⟩) (by repeat (first | exact trivial | refine ⟨rfl, ?_⟩)) (by repeat (first | exact .z | apply Rems.s Rem.z | apply Rems.s (Rem.s Rem.z) | apply Rems.s (Rem.s (Rem.s Rem.z)) | apply Rems.s (Rem.s (Rem.s (Rem.s Rem.z))) | apply Rems.s (Rem.s (Rem.s (Rem.s (Rem.s Rem.z)))) | apply Rems.s (Rem.s (Rem.s (Rem.s (Rem.s (Rem.s Rem.z))))) | apply Rems.s (Rem.s (Rem.s (Rem.s (Rem.s (Rem.s (Rem.s Rem.z)))))) | apply Rems.s (Rem.s (Rem.s (Rem.s (Rem.s (Rem.s (Rem.s (Rem.s Rem.z))))))) | apply Rems.s (Rem.s (Rem.s (Rem.s (Rem.s (Rem.s (Rem.s (Rem.s (Rem.s Rem.z)))))))) | apply Rems.s (Rem.s (Rem.s (Rem.s (Rem.s (Rem.s (Rem.s (Rem.s (Rem.s (Rem.s Rem.z))))))))))) (fun k hp => ?_)
              obtain ⟨hk, hno⟩ := hp
              refine K_seq ?_
              refine K_seq ?_
              refine R_region ?_
              refine r_move rfl rfl rfl ?_
              refine s_lss rfl rfl rfl rfl (fun h32 => ?_) (fun h32 => ?_)
              · first
                | (exfalso; omega)
                |
                  refine R_nil ?_
                  refine K_tn ?_
                  refine K_cond_t rfl ?_
                  refine K_skip ?_
                  refine K_tn ?_
                  refine K_seq ?_
                  refine K_block ?_
                  refine K_seq ?_
                  refine R_region ?_
                  refine r_move rfl rfl rfl ?_
                  refine r_move rfl rfl rfl ?_
                  refine r_move rfl rfl rfl ?_
                  refine r_callR cb_80 rfl rfl rfl rfl rfl (l04With _ _ _ _ _ _ _ es he hl _ _ _ _ _ _ _ hs he2 hl2 (k : Int) (by omega) (by omega)) (by repeat (first | exact .z | refine .s (.h .z) ?_ | refine .s (.h (.s .z)) ?_ | refine .s (.h (.s (.s .z))) ?_ | refine .s (.h (.s (.s (.s .z)))) ?_ | refine .s (.h (.s (.s (.s (.s .z))))) ?_ | refine .s (.h (.s (.s (.s (.s (.s .z)))))) ?_ | refine .s (.h (.s (.s (.s (.s (.s (.s .z))))))) ?_ | refine .s (.h (.s (.s (.s (.s (.s (.s (.s .z)))))))) ?_ | refine .s (.h (.s (.s (.s (.s (.s (.s (.s (.s .z))))))))) ?_ | refine .s (.x .z) ?_ | refine .s (.x (.s .z)) ?_ | refine .s (.x (.s (.s .z))) ?_ | refine .s (.x (.s (.s (.s .z)))) ?_ | refine .s (.x (.s (.s (.s (.s .z))))) ?_ | refine .s (.x (.s (.s (.s (.s (.s .z)))))) ?_ | refine .s (.x (.s (.s (.s (.s (.s (.s .z))))))) ?_)) ?_
                  rintro _ _ ⟨b38, cap38, junk38, u38, rfl, hj38, hc38, rfl⟩
                  refine s_callV cb_74 rfl rfl rfl rfl rfl (l04Share _ _ _ _ _ _ _ (inH es hs (k : Int) len2) rfl (fun i hi => fm_take gd_len gz hi) (inH_valid hv _ (by omega)) (by have := inH_le (es := es) (hs := hs) (h := (k : Int)) len2; omega)) (by repeat (first | exact .z | refine .s (.h .z) ?_ | refine .s (.h (.s .z)) ?_ | refine .s (.h (.s (.s .z))) ?_ | refine .s (.h (.s (.s (.s .z)))) ?_ | refine .s (.h (.s (.s (.s (.s .z))))) ?_ | refine .s (.h (.s (.s (.s (.s (.s .z)))))) ?_ | refine .s (.h (.s (.s (.s (.s (.s (.s .z))))))) ?_ | refine .s (.h (.s (.s (.s (.s (.s (.s (.s .z)))))))) ?_ | refine .s (.h (.s (.s (.s (.s (.s (.s (.s (.s .z))))))))) ?_ | refine .s (.x .z) ?_ | refine .s (.x (.s .z)) ?_ | refine .s (.x (.s (.s .z))) ?_ | refine .s (.x (.s (.s (.s .z)))) ?_ | refine .s (.x (.s (.s (.s (.s .z))))) ?_ | refine .s (.x (.s (.s (.s (.s (.s .z)))))) ?_ | refine .s (.x (.s (.s (.s (.s (.s (.s .z))))))) ?_)) (fun h39 => ?_) (fun h39 => ?_)
                  · first
                    | (exfalso; omega)
                    |
                      refine r_not rfl rfl rfl ?_
                      refine R_nil ?_
                      refine K_tn ?_
                      refine K_cond_f rfl ?_
                      refine K_skip ?_
                      refine K_bn ?_
                      refine K_tn ?_
                      refine R_region ?_
                      refine r_move rfl rfl rfl ?_
                      first | refine r_addN rfl rfl rfl rfl (i64K (by omega) (by omega)) ?_ | refine r_add rfl rfl rfl rfl (i64K (by omega) (by omega)) ?_
                      refine r_assign rfl rfl rfl ?_
                      refine R_nil ?_
                      refine K_tn ?_
                      exact K_again (k + 1) (by exact ⟨by omega, fun j hj => by rcases Nat.lt_succ_iff_lt_or_eq.1 hj with h | h; exact hno j h; subst h; first | assumption | (simp [*, -List.getD_eq_getElem?_getD]; done)⟩) (by omega) (by repeat (first | exact trivial | refine ⟨rfl, ?_⟩)) (by repeat (first | exact .z | apply Rems.s Rem.z | apply Rems.s (Rem.s Rem.z) | apply Rems.s (Rem.s (Rem.s Rem.z)) | apply Rems.s (Rem.s (Rem.s (Rem.s Rem.z))) | apply Rems.s (Rem.s (Rem.s (Rem.s (Rem.s Rem.z)))) | apply Rems.s (Rem.s (Rem.s (Rem.s (Rem.s (Rem.s Rem.z))))) | apply Rems.s (Rem.s (Rem.s (Rem.s (Rem.s (Rem.s (Rem.s Rem.z)))))) | apply Rems.s (Rem.s (Rem.s (Rem.s (Rem.s (Rem.s (Rem.s (Rem.s Rem.z))))))) | apply Rems.s (Rem.s (Rem.s (Rem.s (Rem.s (Rem.s (Rem.s (Rem.s (Rem.s Rem.z)))))))) | apply Rems.s (Rem.s (Rem.s (Rem.s (Rem.s (Rem.s (Rem.s (Rem.s (Rem.s (Rem.s Rem.z)))))))))))
                  · first
                    | (exfalso; omega)
                    |
                      refine r_not rfl rfl rfl ?_
                      refine R_nil ?_
                      refine K_tn ?_
                      refine K_cond_t rfl ?_
                      refine K_seq ?_
                      refine R_region ?_
                      refine r_assign rfl rfl rfl ?_
                      refine r_assign rfl rfl rfl ?_
                      refine R_nil ?_
                      refine K_tn ?_
                      refine K_ret ?_
                      refine K_br ?_
                      refine K_tr ?_
                      refine K_tr ?_
                      refine K_br ?_
                      refine K_tr ?_
                      refine K_done (H' := []) rfl rfl (.s (.tmp rfl) (.s (.tmp rfl) .z)) (by repeat (first | exact .z | apply Rems.s Rem.z | apply Rems.s (Rem.s Rem.z) | apply Rems.s (Rem.s (Rem.s Rem.z)) | apply Rems.s (Rem.s (Rem.s (Rem.s Rem.z))) | apply Rems.s (Rem.s (Rem.s (Rem.s (Rem.s Rem.z)))) | apply Rems.s (Rem.s (Rem.s (Rem.s (Rem.s (Rem.s Rem.z))))) | apply Rems.s (Rem.s (Rem.s (Rem.s (Rem.s (Rem.s (Rem.s Rem.z)))))) | apply Rems.s (Rem.s (Rem.s (Rem.s (Rem.s (Rem.s (Rem.s (Rem.s Rem.z))))))) | apply Rems.s (Rem.s (Rem.s (Rem.s (Rem.s (Rem.s (Rem.s (Rem.s (Rem.s Rem.z)))))))) | apply Rems.s (Rem.s (Rem.s (Rem.s (Rem.s (Rem.s (Rem.s (Rem.s (Rem.s (Rem.s Rem.z))))))))))) ?_
                      refine ⟨?_, rfl⟩
                      first | (rw [show chkG es hs = false from by unfold chkG; rw [if_neg (by omega)]] <;> rfl; done) | (unfold chkG; rw [if_pos hgc, hgc]; rw [rightG_len (by omega)] <;> rfl; done) | (unfold chkG; rw [if_pos hgc, hgc]; rw [rightG_any (by assumption)] <;> rfl; done) | (unfold chkG; rw [if_pos hgc, hgc]; rw [rightG_sh (k := k) (by omega) (by rw [he2]; assumption)] <;> rfl; done) | (unfold chkG; rw [if_pos hgc, hgc]; rw [rightG_rng (i := k) (by omega) (by assumption)] <;> rfl; done) | (unfold chkG; rw [if_pos hgc, hgc]; rw [rightG_yes (by omega) (fun i hi => hrg i (by omega)) (fun i hi => by rw [he2]; exact hno i (by omega))] <;> rfl; done)
              · first
                | (exfalso; omega)
                |
                  refine R_nil ?_
                  refine K_tn ?_
                  refine K_cond_f rfl ?_
                  refine K_exit ?_
                  refine K_te ?_
                  refine K_te ?_
                  refine K_be ?_
                  refine K_tn ?_
                  refine K_seq ?_
                  refine R_region ?_
                  refine r_assign rfl rfl rfl ?_
                  refine r_assign rfl rfl rfl ?_
                  refine R_nil ?_
                  refine K_tn ?_
                  refine K_ret ?_
                  refine K_done (H' := []) rfl rfl (.s (.tmp rfl) (.s (.tmp rfl) .z)) (by repeat (first | exact .z | apply Rems.s Rem.z | apply Rems.s (Rem.s Rem.z) | apply Rems.s (Rem.s (Rem.s Rem.z)) | apply Rems.s (Rem.s (Rem.s (Rem.s Rem.z))) | apply Rems.s (Rem.s (Rem.s (Rem.s (Rem.s Rem.z)))) | apply Rems.s (Rem.s (Rem.s (Rem.s (Rem.s (Rem.s Rem.z))))) | apply Rems.s (Rem.s (Rem.s (Rem.s (Rem.s (Rem.s (Rem.s Rem.z)))))) | apply Rems.s (Rem.s (Rem.s (Rem.s (Rem.s (Rem.s (Rem.s (Rem.s Rem.z))))))) | apply Rems.s (Rem.s (Rem.s (Rem.s (Rem.s (Rem.s (Rem.s (Rem.s (Rem.s Rem.z)))))))) | apply Rems.s (Rem.s (Rem.s (Rem.s (Rem.s (Rem.s (Rem.s (Rem.s (Rem.s (Rem.s Rem.z))))))))))) ?_
                  refine ⟨?_, rfl⟩
                  first | (rw [show chkG es hs = false from by unfold chkG; rw [if_neg (by omega)]] <;> rfl; done) | (unfold chkG; rw [if_pos hgc, hgc]; rw [rightG_len (by omega)] <;> rfl; done) | (unfold chkG; rw [if_pos hgc, hgc]; rw [rightG_any (by assumption)] <;> rfl; done) | (unfold chkG; rw [if_pos hgc, hgc]; rw [rightG_sh (k := k) (by omega) (by rw [he2]; assumption)] <;> rfl; done) | (unfold chkG; rw [if_pos hgc, hgc]; rw [rightG_rng (i := k) (by omega) (by assumption)] <;> rfl; done) | (unfold chkG; rw [if_pos hgc, hgc]; rw [rightG_yes (by omega) (fun i hi => hrg i (by omega)) (fun i hi => by rw [he2]; exact hno i (by omega))] <;> rfl; done)

end Go.Proofs.Ytlkpkenbfaiinaa
