/- Walks of the functions of the program and of the reference, and what each of them returns. -/
import Derived.Test.YtpanpkmheeenjaaWA
set_option linter.unusedVariables false
set_option linter.unusedSimpArgs false
namespace Go.Proofs.Ytpanpkmheeenjaa
open Go.Sl
set_option maxRecDepth 20000 in
theorem l01Crate (b : Nat) (n : Int) (rs : List Nat) (hl : rs.length = 16) (hn : -128 ≤ n ∧ n ≤ 127) (u : TypeId) (fr : Nat × Nat) : SpecV Try.prog 101 [.pointer (some ⟨b, 0, none⟩)] [(b, .cells (.int .i8 n :: fl .f32 rs).toArray u fr)] (.bool (vCrate n rs)) := by
  refine spec_of Try.func101 rfl Try.ntmps101 rfl (fun w0 => ?_)
  refine K_seq ?_
  refine R_region ?_
  refine r_assign rfl rfl rfl ?_
  refine R_nil ?_
  refine K_tn ?_
  refine K_seq ?_
  refine K_seq ?_
  refine R_region ?_
  refine r_move rfl rfl rfl ?_
  refine r_nilCheck rfl rfl rfl ?_
  refine r_fieldAddr fd_54_0 rfl rfl rfl ?_
  refine r_load ag_22 rfl rfl rfl (by first | exact .h .z | exact .h (.s .z) | exact .h (.s (.s .z)) | exact .h (.s (.s (.s .z))) | exact .h (.s (.s (.s (.s .z)))) | exact .h (.s (.s (.s (.s (.s .z))))) | exact .h (.s (.s (.s (.s (.s (.s .z)))))) | exact .h (.s (.s (.s (.s (.s (.s (.s .z))))))) | exact .h (.s (.s (.s (.s (.s (.s (.s (.s .z)))))))) | exact .x .z | exact .x (.s .z) | exact .x (.s (.s .z)) | exact .x (.s (.s (.s .z))) | exact .x (.s (.s (.s (.s .z)))) | exact .x (.s (.s (.s (.s (.s .z))))) | exact .x (.s (.s (.s (.s (.s (.s .z))))))) (by first | rfl | exact gC (by omega) | exact takeC (by omega) | exact takeC0 (by omega)) ?_
  refine r_convI ⟨_, un_22⟩ un_2 rfl rfl rfl (i64K (by omega) (by omega)) ?_
  refine s_callV cb_63 rfl rfl rfl rfl rfl (l00In _ _ _) (by repeat (first | exact .z | refine .s (.h .z) ?_ | refine .s (.h (.s .z)) ?_ | refine .s (.h (.s (.s .z))) ?_ | refine .s (.h (.s (.s (.s .z)))) ?_ | refine .s (.h (.s (.s (.s (.s .z))))) ?_ | refine .s (.h (.s (.s (.s (.s (.s .z)))))) ?_ | refine .s (.h (.s (.s (.s (.s (.s (.s .z))))))) ?_ | refine .s (.h (.s (.s (.s (.s (.s (.s (.s .z)))))))) ?_ | refine .s (.h (.s (.s (.s (.s (.s (.s (.s (.s .z))))))))) ?_ | refine .s (.x .z) ?_ | refine .s (.x (.s .z)) ?_ | refine .s (.x (.s (.s .z))) ?_ | refine .s (.x (.s (.s (.s .z)))) ?_ | refine .s (.x (.s (.s (.s (.s .z))))) ?_ | refine .s (.x (.s (.s (.s (.s (.s .z)))))) ?_ | refine .s (.x (.s (.s (.s (.s (.s (.s .z))))))) ?_)) (fun h9 => ?_) (fun h9 => ?_)
  · first
    | (exfalso; omega)
    |
      refine r_not rfl rfl rfl ?_
      refine R_nil ?_
      refine K_tn ?_
      refine K_cond_f rfl ?_
      refine K_skip ?_
      refine K_tn ?_
      refine K_seq ?_
      refine K_seq ?_
      refine R_region ?_
      refine r_assign rfl rfl rfl ?_
      refine R_nil ?_
      refine K_tn ?_
      refine K_block ?_
      refine K_loop (fun (k : Nat) => k ≤ 16 ∧ ∀ j, j < k → vAt n rs j = true) (fun k => [(0, .pointer (some ⟨b, 0, none⟩)), (3, .int .i64 (k : Int))]) (fun _ => []) (fun k => 16 - k) 0 (by exact ⟨Nat.zero_le _, fun j hj => absurd hj (Nat.not_lt_zero _)⟩) (by repeat (first | exact trivial | refine ⟨rfl, ?_⟩)) (by repeat (first | exact .z | apply Rems.s Rem.z | apply Rems.s (Rem.s Rem.z) | apply Rems.s (Rem.s (Rem.s Rem.z)) | apply Rems.s (Rem.s (Rem.s (Rem.s Rem.z))) | apply Rems.s (Rem.s (Rem.s (Rem.s (Rem.s Rem.z)))) | apply Rems.s (Rem.s (Rem.s (Rem.s (Rem.s (Rem.s Rem.z))))) | apply Rems.s (Rem.s (Rem.s (Rem.s (Rem.s (Rem.s (Rem.s Rem.z)))))) | apply Rems.s (Rem.s (Rem.s (Rem.s (Rem.s (Rem.s (Rem.s (Rem.s Rem.z))))))) | apply Rems.s (Rem.s (Rem.s (Rem.s (Rem.s (Rem.s (Rem.s (Rem.s (Rem.s Rem.z)))))))) | apply Rems.s (Rem.s (Rem.s (Rem.s (Rem.s (Rem.s (Rem.s (Rem.s (Rem.s (Rem.s Rem.z))))))))))) (fun k hp => ?_)
      obtain ⟨hk, hno⟩ := hp
      refine K_seq ?_
      refine K_seq ?_
      refine R_region ?_
      refine r_move rfl rfl rfl ?_
      refine s_lss rfl rfl rfl rfl (fun h12 => ?_) (fun h12 => ?_)
      · first
        | (exfalso; omega)
        |
          refine R_nil ?_
          refine K_tn ?_
          refine K_cond_t rfl ?_
          refine K_skip ?_
          refine K_tn ?_
          refine K_seq ?_
          refine K_block ?_
          refine K_seq ?_
          refine R_region ?_
          refine r_move rfl rfl rfl ?_
          refine r_move rfl rfl rfl ?_
          refine r_nilCheck rfl rfl rfl ?_
          refine r_fieldAddr fd_54_0 rfl rfl rfl ?_
          refine r_load ag_22 rfl rfl rfl (by first | exact .h .z | exact .h (.s .z) | exact .h (.s (.s .z)) | exact .h (.s (.s (.s .z))) | exact .h (.s (.s (.s (.s .z)))) | exact .h (.s (.s (.s (.s (.s .z))))) | exact .h (.s (.s (.s (.s (.s (.s .z)))))) | exact .h (.s (.s (.s (.s (.s (.s (.s .z))))))) | exact .h (.s (.s (.s (.s (.s (.s (.s (.s .z)))))))) | exact .x .z | exact .x (.s .z) | exact .x (.s (.s .z)) | exact .x (.s (.s (.s .z))) | exact .x (.s (.s (.s (.s .z)))) | exact .x (.s (.s (.s (.s (.s .z))))) | exact .x (.s (.s (.s (.s (.s (.s .z))))))) (by first | rfl | exact gC (by omega) | exact takeC (by omega) | exact takeC0 (by omega)) ?_
          refine r_convI ⟨_, un_22⟩ un_3 rfl rfl rfl (i64K (by omega) (by omega)) ?_
          refine s_lss rfl rfl rfl rfl (fun h21 => ?_) (fun h21 => ?_)
          · first
            | (exfalso; omega)
            |
              refine r_move rfl rfl rfl ?_
              refine r_move rfl rfl rfl ?_
              refine r_move rfl rfl rfl ?_
              refine r_nilCheck rfl rfl rfl ?_
              refine r_fieldAddr fd_54_1 rfl rfl rfl ?_
              refine r_indexA ar_24 sz_23 rfl rfl rfl rfl (by omega) ?_
              refine r_load ag_23 rfl rfl rfl (by first | exact .h .z | exact .h (.s .z) | exact .h (.s (.s .z)) | exact .h (.s (.s (.s .z))) | exact .h (.s (.s (.s (.s .z)))) | exact .h (.s (.s (.s (.s (.s .z))))) | exact .h (.s (.s (.s (.s (.s (.s .z)))))) | exact .h (.s (.s (.s (.s (.s (.s (.s .z))))))) | exact .h (.s (.s (.s (.s (.s (.s (.s (.s .z)))))))) | exact .x .z | exact .x (.s .z) | exact .x (.s (.s .z)) | exact .x (.s (.s (.s .z))) | exact .x (.s (.s (.s (.s .z)))) | exact .x (.s (.s (.s (.s (.s .z))))) | exact .x (.s (.s (.s (.s (.s (.s .z))))))) (by first | rfl | exact gC (by omega) | exact takeC (by omega) | exact takeC0 (by omega)) ?_
              refine s_callV cb_90 rfl rfl rfl rfl rfl (l01Part _) (by repeat (first | exact .z | refine .s (.h .z) ?_ | refine .s (.h (.s .z)) ?_ | refine .s (.h (.s (.s .z))) ?_ | refine .s (.h (.s (.s (.s .z)))) ?_ | refine .s (.h (.s (.s (.s (.s .z))))) ?_ | refine .s (.h (.s (.s (.s (.s (.s .z)))))) ?_ | refine .s (.h (.s (.s (.s (.s (.s (.s .z))))))) ?_ | refine .s (.h (.s (.s (.s (.s (.s (.s (.s .z)))))))) ?_ | refine .s (.h (.s (.s (.s (.s (.s (.s (.s (.s .z))))))))) ?_ | refine .s (.x .z) ?_ | refine .s (.x (.s .z)) ?_ | refine .s (.x (.s (.s .z))) ?_ | refine .s (.x (.s (.s (.s .z)))) ?_ | refine .s (.x (.s (.s (.s (.s .z))))) ?_ | refine .s (.x (.s (.s (.s (.s (.s .z)))))) ?_ | refine .s (.x (.s (.s (.s (.s (.s (.s .z))))))) ?_)) (fun h29 => ?_) (fun h29 => ?_)
              · first
                | (exfalso; omega)
                |
                  refine r_not rfl rfl rfl ?_
                  refine r_pick_t rfl rfl rfl rfl ?_
                  refine r_move rfl rfl rfl ?_
                  refine r_move rfl rfl rfl ?_
                  refine r_move rfl rfl rfl ?_
                  refine r_nilCheck rfl rfl rfl ?_
                  refine r_fieldAddr fd_54_0 rfl rfl rfl ?_
                  refine r_load ag_22 rfl rfl rfl (by first | exact .h .z | exact .h (.s .z) | exact .h (.s (.s .z)) | exact .h (.s (.s (.s .z))) | exact .h (.s (.s (.s (.s .z)))) | exact .h (.s (.s (.s (.s (.s .z))))) | exact .h (.s (.s (.s (.s (.s (.s .z)))))) | exact .h (.s (.s (.s (.s (.s (.s (.s .z))))))) | exact .h (.s (.s (.s (.s (.s (.s (.s (.s .z)))))))) | exact .x .z | exact .x (.s .z) | exact .x (.s (.s .z)) | exact .x (.s (.s (.s .z))) | exact .x (.s (.s (.s (.s .z)))) | exact .x (.s (.s (.s (.s (.s .z))))) | exact .x (.s (.s (.s (.s (.s (.s .z))))))) (by first | rfl | exact gC (by omega) | exact takeC (by omega) | exact takeC0 (by omega)) ?_
                  refine r_convI ⟨_, un_22⟩ un_3 rfl rfl rfl (i64K (by omega) (by omega)) ?_
                  refine s_geq rfl rfl rfl rfl (fun h39 => ?_) (fun h39 => ?_)
                  · first
                    | (exfalso; omega)
                    |
                      refine r_move rfl rfl rfl ?_
                      refine r_move rfl rfl rfl ?_
                      refine r_move rfl rfl rfl ?_
                      refine r_nilCheck rfl rfl rfl ?_
                      refine r_fieldAddr fd_54_1 rfl rfl rfl ?_
                      refine r_indexA ar_24 sz_23 rfl rfl rfl rfl (by omega) ?_
                      refine r_load ag_23 rfl rfl rfl (by first | exact .h .z | exact .h (.s .z) | exact .h (.s (.s .z)) | exact .h (.s (.s (.s .z))) | exact .h (.s (.s (.s (.s .z)))) | exact .h (.s (.s (.s (.s (.s .z))))) | exact .h (.s (.s (.s (.s (.s (.s .z)))))) | exact .h (.s (.s (.s (.s (.s (.s (.s .z))))))) | exact .h (.s (.s (.s (.s (.s (.s (.s (.s .z)))))))) | exact .x .z | exact .x (.s .z) | exact .x (.s (.s .z)) | exact .x (.s (.s (.s .z))) | exact .x (.s (.s (.s (.s .z)))) | exact .x (.s (.s (.s (.s (.s .z))))) | exact .x (.s (.s (.s (.s (.s (.s .z))))))) (by first | rfl | exact gC (by omega) | exact takeC (by omega) | exact takeC0 (by omega)) ?_
                      refine s_callV cb_57 rfl rfl rfl rfl rfl (l01Same _ _) (by repeat (first | exact .z | refine .s (.h .z) ?_ | refine .s (.h (.s .z)) ?_ | refine .s (.h (.s (.s .z))) ?_ | refine .s (.h (.s (.s (.s .z)))) ?_ | refine .s (.h (.s (.s (.s (.s .z))))) ?_ | refine .s (.h (.s (.s (.s (.s (.s .z)))))) ?_ | refine .s (.h (.s (.s (.s (.s (.s (.s .z))))))) ?_ | refine .s (.h (.s (.s (.s (.s (.s (.s (.s .z)))))))) ?_ | refine .s (.h (.s (.s (.s (.s (.s (.s (.s (.s .z))))))))) ?_ | refine .s (.x .z) ?_ | refine .s (.x (.s .z)) ?_ | refine .s (.x (.s (.s .z))) ?_ | refine .s (.x (.s (.s (.s .z)))) ?_ | refine .s (.x (.s (.s (.s (.s .z))))) ?_ | refine .s (.x (.s (.s (.s (.s (.s .z)))))) ?_ | refine .s (.x (.s (.s (.s (.s (.s (.s .z))))))) ?_)) (fun h47 => ?_) (fun h47 => ?_)
                      · first
                        | (exfalso; omega)
                        |
                          refine r_not rfl rfl rfl ?_
                          refine r_pick_t rfl rfl rfl rfl ?_
                          refine r_pick_f rfl rfl rfl rfl ?_
                          refine R_nil ?_
                          refine K_tn ?_
                          refine K_cond_f rfl ?_
                          refine K_skip ?_
                          refine K_bn ?_
                          refine K_tn ?_
                          refine R_region ?_
                          refine r_move rfl rfl rfl ?_
                          first | refine r_addN rfl rfl rfl rfl (i64K (by omega) (by omega)) ?_ | refine r_add rfl rfl rfl rfl (i64K (by omega) (by omega)) ?_
                          refine r_assign rfl rfl rfl ?_
                          refine R_nil ?_
                          refine K_tn ?_
                          exact K_again (k + 1) (by exact ⟨by omega, fun j hj => by rcases Nat.lt_succ_iff_lt_or_eq.1 hj with h | h; exact hno j h; subst h; simp [vAt, *, -List.getD_eq_getElem?_getD]⟩) (by omega) (by repeat (first | exact trivial | refine ⟨rfl, ?_⟩)) (by repeat (first | exact .z | apply Rems.s Rem.z | apply Rems.s (Rem.s Rem.z) | apply Rems.s (Rem.s (Rem.s Rem.z)) | apply Rems.s (Rem.s (Rem.s (Rem.s Rem.z))) | apply Rems.s (Rem.s (Rem.s (Rem.s (Rem.s Rem.z)))) | apply Rems.s (Rem.s (Rem.s (Rem.s (Rem.s (Rem.s Rem.z))))) | apply Rems.s (Rem.s (Rem.s (Rem.s (Rem.s (Rem.s (Rem.s Rem.z)))))) | apply Rems.s (Rem.s (Rem.s (Rem.s (Rem.s (Rem.s (Rem.s (Rem.s Rem.z))))))) | apply Rems.s (Rem.s (Rem.s (Rem.s (Rem.s (Rem.s (Rem.s (Rem.s (Rem.s Rem.z)))))))) | apply Rems.s (Rem.s (Rem.s (Rem.s (Rem.s (Rem.s (Rem.s (Rem.s (Rem.s (Rem.s Rem.z)))))))))))
                      · first
                        | (exfalso; omega)
                        |
                          refine r_not rfl rfl rfl ?_
                          refine r_pick_t rfl rfl rfl rfl ?_
                          refine r_pick_f rfl rfl rfl rfl ?_
                          refine R_nil ?_
                          refine K_tn ?_
                          refine K_cond_t rfl ?_
                          refine K_seq ?_
                          refine R_region ?_
                          refine r_assign rfl rfl rfl ?_
                          refine R_nil ?_
                          refine K_tn ?_
                          refine K_ret ?_
                          refine K_br ?_
                          refine K_tr ?_
                          refine K_tr ?_
                          refine K_br ?_
                          refine K_tr ?_
                          refine K_done (H' := []) rfl rfl (.s (.tmp rfl) .z) (by repeat (first | exact .z | apply Rems.s Rem.z | apply Rems.s (Rem.s Rem.z) | apply Rems.s (Rem.s (Rem.s Rem.z)) | apply Rems.s (Rem.s (Rem.s (Rem.s Rem.z))) | apply Rems.s (Rem.s (Rem.s (Rem.s (Rem.s Rem.z)))) | apply Rems.s (Rem.s (Rem.s (Rem.s (Rem.s (Rem.s Rem.z))))) | apply Rems.s (Rem.s (Rem.s (Rem.s (Rem.s (Rem.s (Rem.s Rem.z)))))) | apply Rems.s (Rem.s (Rem.s (Rem.s (Rem.s (Rem.s (Rem.s (Rem.s Rem.z))))))) | apply Rems.s (Rem.s (Rem.s (Rem.s (Rem.s (Rem.s (Rem.s (Rem.s (Rem.s Rem.z)))))))) | apply Rems.s (Rem.s (Rem.s (Rem.s (Rem.s (Rem.s (Rem.s (Rem.s (Rem.s (Rem.s Rem.z))))))))))) ?_
                          refine ⟨?_, rfl⟩
                          first | (exact congrArg Value.bool (vCrate_bad (by assumption)).symm; done) | (exact congrArg Value.bool (vCrate_no (i := k) (by omega) (by simp [vAt, *, -List.getD_eq_getElem?_getD])).symm; done) | (exact congrArg Value.bool (vCrate_yes (by assumption) (fun i hi => hno i (by omega))).symm; done)
                  · first
                    | (exfalso; omega)
                    |
                      refine r_move rfl rfl rfl ?_
                      refine r_skip rfl rfl ?_
                      refine r_skip rfl rfl ?_
                      refine r_skip rfl rfl ?_
                      refine r_skip rfl rfl ?_
                      refine r_skip rfl rfl ?_
                      refine r_skip rfl rfl ?_
                      refine r_skip rfl rfl ?_
                      refine r_skip rfl rfl ?_
                      refine r_pick_f rfl rfl rfl rfl ?_
                      refine r_pick_f rfl rfl rfl rfl ?_
                      refine R_nil ?_
                      refine K_tn ?_
                      refine K_cond_f rfl ?_
                      refine K_skip ?_
                      refine K_bn ?_
                      refine K_tn ?_
                      refine R_region ?_
                      refine r_move rfl rfl rfl ?_
                      first | refine r_addN rfl rfl rfl rfl (i64K (by omega) (by omega)) ?_ | refine r_add rfl rfl rfl rfl (i64K (by omega) (by omega)) ?_
                      refine r_assign rfl rfl rfl ?_
                      refine R_nil ?_
                      refine K_tn ?_
                      exact K_again (k + 1) (by exact ⟨by omega, fun j hj => by rcases Nat.lt_succ_iff_lt_or_eq.1 hj with h | h; exact hno j h; subst h; simp [vAt, *, -List.getD_eq_getElem?_getD]⟩) (by omega) (by repeat (first | exact trivial | refine ⟨rfl, ?_⟩)) (by repeat (first | exact .z | apply Rems.s Rem.z | apply Rems.s (Rem.s Rem.z) | apply Rems.s (Rem.s (Rem.s Rem.z)) | apply Rems.s (Rem.s (Rem.s (Rem.s Rem.z))) | apply Rems.s (Rem.s (Rem.s (Rem.s (Rem.s Rem.z)))) | apply Rems.s (Rem.s (Rem.s (Rem.s (Rem.s (Rem.s Rem.z))))) | apply Rems.s (Rem.s (Rem.s (Rem.s (Rem.s (Rem.s (Rem.s Rem.z)))))) | apply Rems.s (Rem.s (Rem.s (Rem.s (Rem.s (Rem.s (Rem.s (Rem.s Rem.z))))))) | apply Rems.s (Rem.s (Rem.s (Rem.s (Rem.s (Rem.s (Rem.s (Rem.s (Rem.s Rem.z)))))))) | apply Rems.s (Rem.s (Rem.s (Rem.s (Rem.s (Rem.s (Rem.s (Rem.s (Rem.s (Rem.s Rem.z)))))))))))
              · first
                | (exfalso; omega)
                |
                  refine r_not rfl rfl rfl ?_
                  refine r_pick_t rfl rfl rfl rfl ?_
                  refine r_move rfl rfl rfl ?_
                  refine r_skip rfl rfl ?_
                  refine r_skip rfl rfl ?_
                  refine r_skip rfl rfl ?_
                  refine r_skip rfl rfl ?_
                  refine r_skip rfl rfl ?_
                  refine r_skip rfl rfl ?_
                  refine r_skip rfl rfl ?_
                  refine r_skip rfl rfl ?_
                  refine r_skip rfl rfl ?_
                  refine r_skip rfl rfl ?_
                  refine r_skip rfl rfl ?_
                  refine r_skip rfl rfl ?_
                  refine r_skip rfl rfl ?_
                  refine r_skip rfl rfl ?_
                  refine r_skip rfl rfl ?_
                  refine r_skip rfl rfl ?_
                  refine r_skip rfl rfl ?_
                  refine r_pick_t rfl rfl rfl rfl ?_
                  refine R_nil ?_
                  refine K_tn ?_
                  refine K_cond_t rfl ?_
                  refine K_seq ?_
                  refine R_region ?_
                  refine r_assign rfl rfl rfl ?_
                  refine R_nil ?_
                  refine K_tn ?_
                  refine K_ret ?_
                  refine K_br ?_
                  refine K_tr ?_
                  refine K_tr ?_
                  refine K_br ?_
                  refine K_tr ?_
                  refine K_done (H' := []) rfl rfl (.s (.tmp rfl) .z) (by repeat (first | exact .z | apply Rems.s Rem.z | apply Rems.s (Rem.s Rem.z) | apply Rems.s (Rem.s (Rem.s Rem.z)) | apply Rems.s (Rem.s (Rem.s (Rem.s Rem.z))) | apply Rems.s (Rem.s (Rem.s (Rem.s (Rem.s Rem.z)))) | apply Rems.s (Rem.s (Rem.s (Rem.s (Rem.s (Rem.s Rem.z))))) | apply Rems.s (Rem.s (Rem.s (Rem.s (Rem.s (Rem.s (Rem.s Rem.z)))))) | apply Rems.s (Rem.s (Rem.s (Rem.s (Rem.s (Rem.s (Rem.s (Rem.s Rem.z))))))) | apply Rems.s (Rem.s (Rem.s (Rem.s (Rem.s (Rem.s (Rem.s (Rem.s (Rem.s Rem.z)))))))) | apply Rems.s (Rem.s (Rem.s (Rem.s (Rem.s (Rem.s (Rem.s (Rem.s (Rem.s (Rem.s Rem.z))))))))))) ?_
                  refine ⟨?_, rfl⟩
                  first | (exact congrArg Value.bool (vCrate_bad (by assumption)).symm; done) | (exact congrArg Value.bool (vCrate_no (i := k) (by omega) (by simp [vAt, *, -List.getD_eq_getElem?_getD])).symm; done) | (exact congrArg Value.bool (vCrate_yes (by assumption) (fun i hi => hno i (by omega))).symm; done)
          · first
            | (exfalso; omega)
            |
              refine r_move rfl rfl rfl ?_
              refine r_skip rfl rfl ?_
              refine r_skip rfl rfl ?_
              refine r_skip rfl rfl ?_
              refine r_skip rfl rfl ?_
              refine r_skip rfl rfl ?_
              refine r_skip rfl rfl ?_
              refine r_skip rfl rfl ?_
              refine r_skip rfl rfl ?_
              refine r_pick_f rfl rfl rfl rfl ?_
              refine r_move rfl rfl rfl ?_
              refine r_move rfl rfl rfl ?_
              refine r_move rfl rfl rfl ?_
              refine r_nilCheck rfl rfl rfl ?_
              refine r_fieldAddr fd_54_0 rfl rfl rfl ?_
              refine r_load ag_22 rfl rfl rfl (by first | exact .h .z | exact .h (.s .z) | exact .h (.s (.s .z)) | exact .h (.s (.s (.s .z))) | exact .h (.s (.s (.s (.s .z)))) | exact .h (.s (.s (.s (.s (.s .z))))) | exact .h (.s (.s (.s (.s (.s (.s .z)))))) | exact .h (.s (.s (.s (.s (.s (.s (.s .z))))))) | exact .h (.s (.s (.s (.s (.s (.s (.s (.s .z)))))))) | exact .x .z | exact .x (.s .z) | exact .x (.s (.s .z)) | exact .x (.s (.s (.s .z))) | exact .x (.s (.s (.s (.s .z)))) | exact .x (.s (.s (.s (.s (.s .z))))) | exact .x (.s (.s (.s (.s (.s (.s .z))))))) (by first | rfl | exact gC (by omega) | exact takeC (by omega) | exact takeC0 (by omega)) ?_
              refine r_convI ⟨_, un_22⟩ un_3 rfl rfl rfl (i64K (by omega) (by omega)) ?_
              refine s_geq rfl rfl rfl rfl (fun h39 => ?_) (fun h39 => ?_)
              · first
                | (exfalso; omega)
                |
                  refine r_move rfl rfl rfl ?_
                  refine r_move rfl rfl rfl ?_
                  refine r_move rfl rfl rfl ?_
                  refine r_nilCheck rfl rfl rfl ?_
                  refine r_fieldAddr fd_54_1 rfl rfl rfl ?_
                  refine r_indexA ar_24 sz_23 rfl rfl rfl rfl (by omega) ?_
                  refine r_load ag_23 rfl rfl rfl (by first | exact .h .z | exact .h (.s .z) | exact .h (.s (.s .z)) | exact .h (.s (.s (.s .z))) | exact .h (.s (.s (.s (.s .z)))) | exact .h (.s (.s (.s (.s (.s .z))))) | exact .h (.s (.s (.s (.s (.s (.s .z)))))) | exact .h (.s (.s (.s (.s (.s (.s (.s .z))))))) | exact .h (.s (.s (.s (.s (.s (.s (.s (.s .z)))))))) | exact .x .z | exact .x (.s .z) | exact .x (.s (.s .z)) | exact .x (.s (.s (.s .z))) | exact .x (.s (.s (.s (.s .z)))) | exact .x (.s (.s (.s (.s (.s .z))))) | exact .x (.s (.s (.s (.s (.s (.s .z))))))) (by first | rfl | exact gC (by omega) | exact takeC (by omega) | exact takeC0 (by omega)) ?_
                  refine s_callV cb_57 rfl rfl rfl rfl rfl (l01Same _ _) (by repeat (first | exact .z | refine .s (.h .z) ?_ | refine .s (.h (.s .z)) ?_ | refine .s (.h (.s (.s .z))) ?_ | refine .s (.h (.s (.s (.s .z)))) ?_ | refine .s (.h (.s (.s (.s (.s .z))))) ?_ | refine .s (.h (.s (.s (.s (.s (.s .z)))))) ?_ | refine .s (.h (.s (.s (.s (.s (.s (.s .z))))))) ?_ | refine .s (.h (.s (.s (.s (.s (.s (.s (.s .z)))))))) ?_ | refine .s (.h (.s (.s (.s (.s (.s (.s (.s (.s .z))))))))) ?_ | refine .s (.x .z) ?_ | refine .s (.x (.s .z)) ?_ | refine .s (.x (.s (.s .z))) ?_ | refine .s (.x (.s (.s (.s .z)))) ?_ | refine .s (.x (.s (.s (.s (.s .z))))) ?_ | refine .s (.x (.s (.s (.s (.s (.s .z)))))) ?_ | refine .s (.x (.s (.s (.s (.s (.s (.s .z))))))) ?_)) (fun h47 => ?_) (fun h47 => ?_)
                  · first
                    | (exfalso; omega)
                    |
                      refine r_not rfl rfl rfl ?_
                      refine r_pick_t rfl rfl rfl rfl ?_
                      refine r_pick_f rfl rfl rfl rfl ?_
                      refine R_nil ?_
                      refine K_tn ?_
                      refine K_cond_f rfl ?_
                      refine K_skip ?_
                      refine K_bn ?_
                      refine K_tn ?_
                      refine R_region ?_
                      refine r_move rfl rfl rfl ?_
                      first | refine r_addN rfl rfl rfl rfl (i64K (by omega) (by omega)) ?_ | refine r_add rfl rfl rfl rfl (i64K (by omega) (by omega)) ?_
                      refine r_assign rfl rfl rfl ?_
                      refine R_nil ?_
                      refine K_tn ?_
                      exact K_again (k + 1) (by exact ⟨by omega, fun j hj => by rcases Nat.lt_succ_iff_lt_or_eq.1 hj with h | h; exact hno j h; subst h; simp [vAt, *, -List.getD_eq_getElem?_getD]⟩) (by omega) (by repeat (first | exact trivial | refine ⟨rfl, ?_⟩)) (by repeat (first | exact .z | apply Rems.s Rem.z | apply Rems.s (Rem.s Rem.z) | apply Rems.s (Rem.s (Rem.s Rem.z)) | apply Rems.s (Rem.s (Rem.s (Rem.s Rem.z))) | apply Rems.s (Rem.s (Rem.s (Rem.s (Rem.s Rem.z)))) | apply Rems.s (Rem.s (Rem.s (Rem.s (Rem.s (Rem.s Rem.z))))) | apply Rems.s (Rem.s (Rem.s (Rem.s (Rem.s (Rem.s (Rem.s Rem.z)))))) | apply Rems.s (Rem.s (Rem.s (Rem.s (Rem.s (Rem.s (Rem.s (Rem.s Rem.z))))))) | apply Rems.s (Rem.s (Rem.s (Rem.s (Rem.s (Rem.s (Rem.s (Rem.s (Rem.s Rem.z)))))))) | apply Rems.s (Rem.s (Rem.s (Rem.s (Rem.s (Rem.s (Rem.s (Rem.s (Rem.s (Rem.s Rem.z)))))))))))
                  · first
                    | (exfalso; omega)
                    |
                      refine r_not rfl rfl rfl ?_
                      refine r_pick_t rfl rfl rfl rfl ?_
                      refine r_pick_f rfl rfl rfl rfl ?_
                      refine R_nil ?_
                      refine K_tn ?_
                      refine K_cond_t rfl ?_
                      refine K_seq ?_
                      refine R_region ?_
                      refine r_assign rfl rfl rfl ?_
                      refine R_nil ?_
                      refine K_tn ?_
                      refine K_ret ?_
                      refine K_br ?_
                      refine K_tr ?_
                      refine K_tr ?_
                      refine K_br ?_
                      refine K_tr ?_
                      refine K_done (H' := []) rfl rfl (.s (.tmp rfl) .z) (by repeat (first | exact .z | apply Rems.s Rem.z | apply Rems.s (Rem.s Rem.z) | apply Rems.s (Rem.s (Rem.s Rem.z)) | apply Rems.s (Rem.s (Rem.s (Rem.s Rem.z))) | apply Rems.s (Rem.s (Rem.s (Rem.s (Rem.s Rem.z)))) | apply Rems.s (Rem.s (Rem.s (Rem.s (Rem.s (Rem.s Rem.z))))) | apply Rems.s (Rem.s (Rem.s (Rem.s (Rem.s (Rem.s (Rem.s Rem.z)))))) | apply Rems.s (Rem.s (Rem.s (Rem.s (Rem.s (Rem.s (Rem.s (Rem.s Rem.z))))))) | apply Rems.s (Rem.s (Rem.s (Rem.s (Rem.s (Rem.s (Rem.s (Rem.s (Rem.s Rem.z)))))))) | apply Rems.s (Rem.s (Rem.s (Rem.s (Rem.s (Rem.s (Rem.s (Rem.s (Rem.s (Rem.s Rem.z))))))))))) ?_
                      refine ⟨?_, rfl⟩
                      first | (exact congrArg Value.bool (vCrate_bad (by assumption)).symm; done) | (exact congrArg Value.bool (vCrate_no (i := k) (by omega) (by simp [vAt, *, -List.getD_eq_getElem?_getD])).symm; done) | (exact congrArg Value.bool (vCrate_yes (by assumption) (fun i hi => hno i (by omega))).symm; done)
              · first
                | (exfalso; omega)
                |
                  refine r_move rfl rfl rfl ?_
                  refine r_skip rfl rfl ?_
                  refine r_skip rfl rfl ?_
                  refine r_skip rfl rfl ?_
                  refine r_skip rfl rfl ?_
                  refine r_skip rfl rfl ?_
                  refine r_skip rfl rfl ?_
                  refine r_skip rfl rfl ?_
                  refine r_skip rfl rfl ?_
                  refine r_pick_f rfl rfl rfl rfl ?_
                  refine r_pick_f rfl rfl rfl rfl ?_
                  refine R_nil ?_
                  refine K_tn ?_
                  refine K_cond_f rfl ?_
                  refine K_skip ?_
                  refine K_bn ?_
                  refine K_tn ?_
                  refine R_region ?_
                  refine r_move rfl rfl rfl ?_
                  first | refine r_addN rfl rfl rfl rfl (i64K (by omega) (by omega)) ?_ | refine r_add rfl rfl rfl rfl (i64K (by omega) (by omega)) ?_
                  refine r_assign rfl rfl rfl ?_
                  refine R_nil ?_
                  refine K_tn ?_
                  exact K_again (k + 1) (by exact ⟨by omega, fun j hj => by rcases Nat.lt_succ_iff_lt_or_eq.1 hj with h | h; exact hno j h; subst h; simp [vAt, *, -List.getD_eq_getElem?_getD]⟩) (by omega) (by repeat (first | exact trivial | refine ⟨rfl, ?_⟩)) (by repeat (first | exact .z | apply Rems.s Rem.z | apply Rems.s (Rem.s Rem.z) | apply Rems.s (Rem.s (Rem.s Rem.z)) | apply Rems.s (Rem.s (Rem.s (Rem.s Rem.z))) | apply Rems.s (Rem.s (Rem.s (Rem.s (Rem.s Rem.z)))) | apply Rems.s (Rem.s (Rem.s (Rem.s (Rem.s (Rem.s Rem.z))))) | apply Rems.s (Rem.s (Rem.s (Rem.s (Rem.s (Rem.s (Rem.s Rem.z)))))) | apply Rems.s (Rem.s (Rem.s (Rem.s (Rem.s (Rem.s (Rem.s (Rem.s Rem.z))))))) | apply Rems.s (Rem.s (Rem.s (Rem.s (Rem.s (Rem.s (Rem.s (Rem.s (Rem.s Rem.z)))))))) | apply Rems.s (Rem.s (Rem.s (Rem.s (Rem.s (Rem.s (Rem.s (Rem.s (Rem.s (Rem.s Rem.z)))))))))))
      · first
        | (exfalso; omega)
        |
          refine R_nil ?_
          refine K_tn ?_
          refine K_cond_f rfl ?_
          refine K_exit ?_
          refine K_te ?_
          refine K_te ?_
          refine K_be ?_
          refine K_tn ?_
          refine K_seq ?_
          refine R_region ?_
          refine r_assign rfl rfl rfl ?_
          refine R_nil ?_
          refine K_tn ?_
          refine K_ret ?_
          refine K_done (H' := []) rfl rfl (.s (.tmp rfl) .z) (by repeat (first | exact .z | apply Rems.s Rem.z | apply Rems.s (Rem.s Rem.z) | apply Rems.s (Rem.s (Rem.s Rem.z)) | apply Rems.s (Rem.s (Rem.s (Rem.s Rem.z))) | apply Rems.s (Rem.s (Rem.s (Rem.s (Rem.s Rem.z)))) | apply Rems.s (Rem.s (Rem.s (Rem.s (Rem.s (Rem.s Rem.z))))) | apply Rems.s (Rem.s (Rem.s (Rem.s (Rem.s (Rem.s (Rem.s Rem.z)))))) | apply Rems.s (Rem.s (Rem.s (Rem.s (Rem.s (Rem.s (Rem.s (Rem.s Rem.z))))))) | apply Rems.s (Rem.s (Rem.s (Rem.s (Rem.s (Rem.s (Rem.s (Rem.s (Rem.s Rem.z)))))))) | apply Rems.s (Rem.s (Rem.s (Rem.s (Rem.s (Rem.s (Rem.s (Rem.s (Rem.s (Rem.s Rem.z))))))))))) ?_
          refine ⟨?_, rfl⟩
          first | (exact congrArg Value.bool (vCrate_bad (by assumption)).symm; done) | (exact congrArg Value.bool (vCrate_no (i := k) (by omega) (by simp [vAt, *, -List.getD_eq_getElem?_getD])).symm; done) | (exact congrArg Value.bool (vCrate_yes (by assumption) (fun i hi => hno i (by omega))).symm; done)
  · first
    | (exfalso; omega)
    |
      refine r_not rfl rfl rfl ?_
      refine R_nil ?_
      refine K_tn ?_
      refine K_cond_t rfl ?_
      refine K_seq ?_
      refine R_region ?_
      refine r_assign rfl rfl rfl ?_
      refine R_nil ?_
      refine K_tn ?_
      refine K_ret ?_
      refine K_tr ?_
      refine K_done (H' := []) rfl rfl (.s (.tmp rfl) .z) (by repeat (first | exact .z | apply Rems.s Rem.z | apply Rems.s (Rem.s Rem.z) | apply Rems.s (Rem.s (Rem.s Rem.z)) | apply Rems.s (Rem.s (Rem.s (Rem.s Rem.z))) | apply Rems.s (Rem.s (Rem.s (Rem.s (Rem.s Rem.z)))) | apply Rems.s (Rem.s (Rem.s (Rem.s (Rem.s (Rem.s Rem.z))))) | apply Rems.s (Rem.s (Rem.s (Rem.s (Rem.s (Rem.s (Rem.s Rem.z)))))) | apply Rems.s (Rem.s (Rem.s (Rem.s (Rem.s (Rem.s (Rem.s (Rem.s Rem.z))))))) | apply Rems.s (Rem.s (Rem.s (Rem.s (Rem.s (Rem.s (Rem.s (Rem.s (Rem.s Rem.z)))))))) | apply Rems.s (Rem.s (Rem.s (Rem.s (Rem.s (Rem.s (Rem.s (Rem.s (Rem.s (Rem.s Rem.z))))))))))) ?_
      refine ⟨?_, rfl⟩
      first | (exact congrArg Value.bool (vCrate_bad (by assumption)).symm; done) | (exact congrArg Value.bool (vCrate_no (i := k) (by omega) (by simp [vAt, *, -List.getD_eq_getElem?_getD])).symm; done) | (exact congrArg Value.bool (vCrate_yes (by assumption) (fun i hi => hno i (by omega))).symm; done)

set_option maxRecDepth 20000 in
theorem areParts1 (a : Nat) : SpecV Try.prog 102 [.float .f32 a] [] (.bool (!isPart a)) := by
  refine spec_of Try.func102 rfl Try.ntmps102 rfl (fun w0 => ?_)
  refine K_seq ?_
  refine R_region ?_
  refine r_assign rfl rfl rfl ?_
  refine R_nil ?_
  refine K_tn ?_
  refine K_seq ?_
  refine R_region ?_
  refine r_move rfl rfl rfl ?_
  refine r_callV cb_65 rfl rfl rfl rfl rfl (IsPart _) (by repeat (first | exact .z | refine .s (.h .z) ?_ | refine .s (.h (.s .z)) ?_ | refine .s (.h (.s (.s .z))) ?_ | refine .s (.h (.s (.s (.s .z)))) ?_ | refine .s (.h (.s (.s (.s (.s .z))))) ?_ | refine .s (.h (.s (.s (.s (.s (.s .z)))))) ?_ | refine .s (.h (.s (.s (.s (.s (.s (.s .z))))))) ?_ | refine .s (.h (.s (.s (.s (.s (.s (.s (.s .z)))))))) ?_ | refine .s (.h (.s (.s (.s (.s (.s (.s (.s (.s .z))))))))) ?_ | refine .s (.x .z) ?_ | refine .s (.x (.s .z)) ?_ | refine .s (.x (.s (.s .z))) ?_ | refine .s (.x (.s (.s (.s .z)))) ?_ | refine .s (.x (.s (.s (.s (.s .z))))) ?_ | refine .s (.x (.s (.s (.s (.s (.s .z)))))) ?_ | refine .s (.x (.s (.s (.s (.s (.s (.s .z))))))) ?_)) ?_
  refine r_not rfl rfl rfl ?_
  refine r_assign rfl rfl rfl ?_
  refine R_nil ?_
  refine K_tn ?_
  refine K_ret ?_
  refine K_done (H' := []) rfl rfl (.s (.tmp rfl) .z) (by repeat (first | exact .z | apply Rems.s Rem.z | apply Rems.s (Rem.s Rem.z) | apply Rems.s (Rem.s (Rem.s Rem.z)) | apply Rems.s (Rem.s (Rem.s (Rem.s Rem.z))) | apply Rems.s (Rem.s (Rem.s (Rem.s (Rem.s Rem.z)))) | apply Rems.s (Rem.s (Rem.s (Rem.s (Rem.s (Rem.s Rem.z))))) | apply Rems.s (Rem.s (Rem.s (Rem.s (Rem.s (Rem.s (Rem.s Rem.z)))))) | apply Rems.s (Rem.s (Rem.s (Rem.s (Rem.s (Rem.s (Rem.s (Rem.s Rem.z))))))) | apply Rems.s (Rem.s (Rem.s (Rem.s (Rem.s (Rem.s (Rem.s (Rem.s (Rem.s Rem.z)))))))) | apply Rems.s (Rem.s (Rem.s (Rem.s (Rem.s (Rem.s (Rem.s (Rem.s (Rem.s (Rem.s Rem.z))))))))))) ?_
  refine ⟨?_, rfl⟩
  simp [packV, *]

set_option maxRecDepth 20000 in
theorem validCrate1 (a : Nat) : SpecV Try.prog 93 [.float .f32 a] [] (.bool (!same a 0)) := by
  refine spec_of Try.func93 rfl Try.ntmps93 rfl (fun w0 => ?_)
  refine K_seq ?_
  refine R_region ?_
  refine r_assign rfl rfl rfl ?_
  refine R_nil ?_
  refine K_tn ?_
  refine K_seq ?_
  refine R_region ?_
  refine r_move rfl rfl rfl ?_
  refine r_callV cb_89 rfl rfl rfl rfl rfl (SameNumber _ _) (by repeat (first | exact .z | refine .s (.h .z) ?_ | refine .s (.h (.s .z)) ?_ | refine .s (.h (.s (.s .z))) ?_ | refine .s (.h (.s (.s (.s .z)))) ?_ | refine .s (.h (.s (.s (.s (.s .z))))) ?_ | refine .s (.h (.s (.s (.s (.s (.s .z)))))) ?_ | refine .s (.h (.s (.s (.s (.s (.s (.s .z))))))) ?_ | refine .s (.h (.s (.s (.s (.s (.s (.s (.s .z)))))))) ?_ | refine .s (.h (.s (.s (.s (.s (.s (.s (.s (.s .z))))))))) ?_ | refine .s (.x .z) ?_ | refine .s (.x (.s .z)) ?_ | refine .s (.x (.s (.s .z))) ?_ | refine .s (.x (.s (.s (.s .z)))) ?_ | refine .s (.x (.s (.s (.s (.s .z))))) ?_ | refine .s (.x (.s (.s (.s (.s (.s .z)))))) ?_ | refine .s (.x (.s (.s (.s (.s (.s (.s .z))))))) ?_)) ?_
  refine r_not rfl rfl rfl ?_
  refine r_assign rfl rfl rfl ?_
  refine R_nil ?_
  refine K_tn ?_
  refine K_ret ?_
  refine K_done (H' := []) rfl rfl (.s (.tmp rfl) .z) (by repeat (first | exact .z | apply Rems.s Rem.z | apply Rems.s (Rem.s Rem.z) | apply Rems.s (Rem.s (Rem.s Rem.z)) | apply Rems.s (Rem.s (Rem.s (Rem.s Rem.z))) | apply Rems.s (Rem.s (Rem.s (Rem.s (Rem.s Rem.z)))) | apply Rems.s (Rem.s (Rem.s (Rem.s (Rem.s (Rem.s Rem.z))))) | apply Rems.s (Rem.s (Rem.s (Rem.s (Rem.s (Rem.s (Rem.s Rem.z)))))) | apply Rems.s (Rem.s (Rem.s (Rem.s (Rem.s (Rem.s (Rem.s (Rem.s Rem.z))))))) | apply Rems.s (Rem.s (Rem.s (Rem.s (Rem.s (Rem.s (Rem.s (Rem.s (Rem.s Rem.z)))))))) | apply Rems.s (Rem.s (Rem.s (Rem.s (Rem.s (Rem.s (Rem.s (Rem.s (Rem.s (Rem.s Rem.z))))))))))) ?_
  refine ⟨?_, rfl⟩
  simp [packV, *]

set_option maxRecDepth 20000 in
theorem areParts (b off len cap : Nat) (l : List Value) (u : TypeId) (fr : Nat × Nat) (es : List Nat) (he : es.length = len) (hl : ∀ i, i < len → l[off + i * 1]? = some (.float .f32 (es.getD i 0))) (hb : len ≤ 9223372036854775807) : SpecV Try.prog 91 [.slice (some ⟨b, off, none⟩) len cap] [(b, .cells l.toArray u fr)] (.bool (es.all isPart)) := by
  refine spec_of Try.func91 rfl Try.ntmps91 rfl (fun w0 => ?_)
  refine K_seq ?_
  refine R_region ?_
  refine r_assign rfl rfl rfl ?_
  refine R_nil ?_
  refine K_tn ?_
  refine K_seq ?_
  refine R_region ?_
  refine r_move rfl rfl rfl ?_
  refine r_callV cb_92 rfl rfl rfl rfl rfl (containsFuncF _ _ _ _ _ _ _ _ he hl 102 [] [] [] (fun a => !isPart a) cb_102 areParts1 hb) (by repeat (first | exact .z | refine .s (.h .z) ?_ | refine .s (.h (.s .z)) ?_ | refine .s (.h (.s (.s .z))) ?_ | refine .s (.h (.s (.s (.s .z)))) ?_ | refine .s (.h (.s (.s (.s (.s .z))))) ?_ | refine .s (.h (.s (.s (.s (.s (.s .z)))))) ?_ | refine .s (.h (.s (.s (.s (.s (.s (.s .z))))))) ?_ | refine .s (.h (.s (.s (.s (.s (.s (.s (.s .z)))))))) ?_ | refine .s (.h (.s (.s (.s (.s (.s (.s (.s (.s .z))))))))) ?_ | refine .s (.x .z) ?_ | refine .s (.x (.s .z)) ?_ | refine .s (.x (.s (.s .z))) ?_ | refine .s (.x (.s (.s (.s .z)))) ?_ | refine .s (.x (.s (.s (.s (.s .z))))) ?_ | refine .s (.x (.s (.s (.s (.s (.s .z)))))) ?_ | refine .s (.x (.s (.s (.s (.s (.s (.s .z))))))) ?_)) ?_
  refine r_not rfl rfl rfl ?_
  refine r_assign rfl rfl rfl ?_
  refine R_nil ?_
  refine K_tn ?_
  refine K_ret ?_
  refine K_done (H' := []) rfl rfl (.s (.tmp rfl) .z) (by repeat (first | exact .z | apply Rems.s Rem.z | apply Rems.s (Rem.s Rem.z) | apply Rems.s (Rem.s (Rem.s Rem.z)) | apply Rems.s (Rem.s (Rem.s (Rem.s Rem.z))) | apply Rems.s (Rem.s (Rem.s (Rem.s (Rem.s Rem.z)))) | apply Rems.s (Rem.s (Rem.s (Rem.s (Rem.s (Rem.s Rem.z))))) | apply Rems.s (Rem.s (Rem.s (Rem.s (Rem.s (Rem.s (Rem.s Rem.z)))))) | apply Rems.s (Rem.s (Rem.s (Rem.s (Rem.s (Rem.s (Rem.s (Rem.s Rem.z))))))) | apply Rems.s (Rem.s (Rem.s (Rem.s (Rem.s (Rem.s (Rem.s (Rem.s (Rem.s Rem.z)))))))) | apply Rems.s (Rem.s (Rem.s (Rem.s (Rem.s (Rem.s (Rem.s (Rem.s (Rem.s (Rem.s Rem.z))))))))))) ?_
  refine ⟨?_, rfl⟩
  exact congrArg Value.bool (any_not isPart es)

set_option maxRecDepth 20000 in
theorem validCrate_no (n : Int) (rs : List Nat) (hn : -128 ≤ n ∧ n ≤ 127) (hv : inR n 0 16 = false) : SpecV Try.prog 61 [.agg (.int .i8 n :: fl .f32 rs).toArray] [] (.bool false) := by
  refine spec_of Try.func61 rfl Try.ntmps61 rfl (fun w0 => ?_)
  refine K_seq ?_
  refine R_region ?_
  refine r_box rfl rfl rfl rfl (fun b1 => ?_)
  refine r_assign rfl rfl rfl ?_
  refine R_nil ?_
  refine K_tn ?_
  refine K_seq ?_
  refine K_seq ?_
  refine R_region ?_
  refine r_fieldAddr fd_54_0 rfl rfl rfl ?_
  refine r_load ag_22 rfl rfl rfl (by first | exact .h .z | exact .h (.s .z) | exact .h (.s (.s .z)) | exact .h (.s (.s (.s .z))) | exact .h (.s (.s (.s (.s .z)))) | exact .h (.s (.s (.s (.s (.s .z))))) | exact .h (.s (.s (.s (.s (.s (.s .z)))))) | exact .h (.s (.s (.s (.s (.s (.s (.s .z))))))) | exact .h (.s (.s (.s (.s (.s (.s (.s (.s .z)))))))) | exact .x .z | exact .x (.s .z) | exact .x (.s (.s .z)) | exact .x (.s (.s (.s .z))) | exact .x (.s (.s (.s (.s .z)))) | exact .x (.s (.s (.s (.s (.s .z))))) | exact .x (.s (.s (.s (.s (.s (.s .z))))))) (by first | rfl) ?_
  refine r_convI ⟨_, un_22⟩ un_2 rfl rfl rfl (i64K (by omega) (by omega)) ?_
  refine s_callV cb_66 rfl rfl rfl rfl rfl (within _ _ _) (by repeat (first | exact .z | refine .s (.h .z) ?_ | refine .s (.h (.s .z)) ?_ | refine .s (.h (.s (.s .z))) ?_ | refine .s (.h (.s (.s (.s .z)))) ?_ | refine .s (.h (.s (.s (.s (.s .z))))) ?_ | refine .s (.h (.s (.s (.s (.s (.s .z)))))) ?_ | refine .s (.h (.s (.s (.s (.s (.s (.s .z))))))) ?_ | refine .s (.h (.s (.s (.s (.s (.s (.s (.s .z)))))))) ?_ | refine .s (.h (.s (.s (.s (.s (.s (.s (.s (.s .z))))))))) ?_ | refine .s (.x .z) ?_ | refine .s (.x (.s .z)) ?_ | refine .s (.x (.s (.s .z))) ?_ | refine .s (.x (.s (.s (.s .z)))) ?_ | refine .s (.x (.s (.s (.s (.s .z))))) ?_ | refine .s (.x (.s (.s (.s (.s (.s .z)))))) ?_ | refine .s (.x (.s (.s (.s (.s (.s (.s .z))))))) ?_)) (fun h6 => ?_) (fun h6 => ?_)
  · first
    | (exfalso; rw [hv] at h6; cases h6; done)
    |
      refine r_not rfl rfl rfl ?_
      refine r_move rfl rfl rfl ?_
      refine r_fieldAddr fd_54_1 rfl rfl rfl ?_
      refine r_fieldAddr fd_54_0 rfl rfl rfl ?_
      refine r_load ag_22 rfl rfl rfl (by first | exact .h .z | exact .h (.s .z) | exact .h (.s (.s .z)) | exact .h (.s (.s (.s .z))) | exact .h (.s (.s (.s (.s .z)))) | exact .h (.s (.s (.s (.s (.s .z))))) | exact .h (.s (.s (.s (.s (.s (.s .z)))))) | exact .h (.s (.s (.s (.s (.s (.s (.s .z))))))) | exact .h (.s (.s (.s (.s (.s (.s (.s (.s .z)))))))) | exact .x .z | exact .x (.s .z) | exact .x (.s (.s .z)) | exact .x (.s (.s (.s .z))) | exact .x (.s (.s (.s (.s .z)))) | exact .x (.s (.s (.s (.s (.s .z))))) | exact .x (.s (.s (.s (.s (.s (.s .z))))))) (by first | rfl) ?_
      refine op_pure rfl rfl (p_sliceA0 ar_24 sz_23 rfl rfl rfl rfl rfl (by omega) (by omega)) ?_
      refine s_callV cb_91 rfl rfl rfl rfl rfl (areParts _ _ _ _ _ _ _ _ (by first | assumption | (simp; done)) (by assumption) (by omega)) (by repeat (first | exact .z | refine .s (.h .z) ?_ | refine .s (.h (.s .z)) ?_ | refine .s (.h (.s (.s .z))) ?_ | refine .s (.h (.s (.s (.s .z)))) ?_ | refine .s (.h (.s (.s (.s (.s .z))))) ?_ | refine .s (.h (.s (.s (.s (.s (.s .z)))))) ?_ | refine .s (.h (.s (.s (.s (.s (.s (.s .z))))))) ?_ | refine .s (.h (.s (.s (.s (.s (.s (.s (.s .z)))))))) ?_ | refine .s (.h (.s (.s (.s (.s (.s (.s (.s (.s .z))))))))) ?_ | refine .s (.x .z) ?_ | refine .s (.x (.s .z)) ?_ | refine .s (.x (.s (.s .z))) ?_ | refine .s (.x (.s (.s (.s .z)))) ?_ | refine .s (.x (.s (.s (.s (.s .z))))) ?_ | refine .s (.x (.s (.s (.s (.s (.s .z)))))) ?_ | refine .s (.x (.s (.s (.s (.s (.s (.s .z))))))) ?_)) (fun h13 => ?_) (fun h13 => ?_)
      · first
        | (exfalso; rw [hv] at h6; cases h6; done)
        |
          refine r_not rfl rfl rfl ?_
          refine r_pick_f rfl rfl rfl rfl ?_
          refine R_nil ?_
          refine K_tn ?_
          refine K_cond_f rfl ?_
          refine K_skip ?_
          refine K_tn ?_
          refine K_seq ?_
          refine R_region ?_
          refine r_fieldAddr fd_54_1 rfl rfl rfl ?_
          refine r_fieldAddr fd_54_0 rfl rfl rfl ?_
          refine r_load ag_22 rfl rfl rfl (by first | exact .h .z | exact .h (.s .z) | exact .h (.s (.s .z)) | exact .h (.s (.s (.s .z))) | exact .h (.s (.s (.s (.s .z)))) | exact .h (.s (.s (.s (.s (.s .z))))) | exact .h (.s (.s (.s (.s (.s (.s .z)))))) | exact .h (.s (.s (.s (.s (.s (.s (.s .z))))))) | exact .h (.s (.s (.s (.s (.s (.s (.s (.s .z)))))))) | exact .x .z | exact .x (.s .z) | exact .x (.s (.s .z)) | exact .x (.s (.s (.s .z))) | exact .x (.s (.s (.s (.s .z)))) | exact .x (.s (.s (.s (.s (.s .z))))) | exact .x (.s (.s (.s (.s (.s (.s .z))))))) (by first | rfl) ?_
          refine op_pure rfl rfl (p_sliceA ar_24 sz_23 rfl rfl rfl rfl rfl ⟨by omega, by omega⟩ (by omega)) ?_
          refine r_callV cb_92 rfl rfl rfl rfl rfl (containsFuncF _ _ _ _ _ _ _ _ (by assumption) (by assumption) _ _ _ _ _ (by assumption) (by assumption) (by omega)) (by repeat (first | exact .z | refine .s (.h .z) ?_ | refine .s (.h (.s .z)) ?_ | refine .s (.h (.s (.s .z))) ?_ | refine .s (.h (.s (.s (.s .z)))) ?_ | refine .s (.h (.s (.s (.s (.s .z))))) ?_ | refine .s (.h (.s (.s (.s (.s (.s .z)))))) ?_ | refine .s (.h (.s (.s (.s (.s (.s (.s .z))))))) ?_ | refine .s (.h (.s (.s (.s (.s (.s (.s (.s .z)))))))) ?_ | refine .s (.h (.s (.s (.s (.s (.s (.s (.s (.s .z))))))))) ?_ | refine .s (.x .z) ?_ | refine .s (.x (.s .z)) ?_ | refine .s (.x (.s (.s .z))) ?_ | refine .s (.x (.s (.s (.s .z)))) ?_ | refine .s (.x (.s (.s (.s (.s .z))))) ?_ | refine .s (.x (.s (.s (.s (.s (.s .z)))))) ?_ | refine .s (.x (.s (.s (.s (.s (.s (.s .z))))))) ?_)) ?_
          refine r_not rfl rfl rfl ?_
          refine r_assign rfl rfl rfl ?_
          refine R_nil ?_
          refine K_tn ?_
          refine K_ret ?_
          refine K_done (H' := []) rfl rfl (.s (.tmp rfl) .z) (by repeat (first | exact .z | apply Rems.s Rem.z | apply Rems.s (Rem.s Rem.z) | apply Rems.s (Rem.s (Rem.s Rem.z)) | apply Rems.s (Rem.s (Rem.s (Rem.s Rem.z))) | apply Rems.s (Rem.s (Rem.s (Rem.s (Rem.s Rem.z)))) | apply Rems.s (Rem.s (Rem.s (Rem.s (Rem.s (Rem.s Rem.z))))) | apply Rems.s (Rem.s (Rem.s (Rem.s (Rem.s (Rem.s (Rem.s Rem.z)))))) | apply Rems.s (Rem.s (Rem.s (Rem.s (Rem.s (Rem.s (Rem.s (Rem.s Rem.z))))))) | apply Rems.s (Rem.s (Rem.s (Rem.s (Rem.s (Rem.s (Rem.s (Rem.s (Rem.s Rem.z)))))))) | apply Rems.s (Rem.s (Rem.s (Rem.s (Rem.s (Rem.s (Rem.s (Rem.s (Rem.s (Rem.s Rem.z))))))))))) ?_
          refine ⟨?_, rfl⟩
          simp [packV]
      · first
        | (exfalso; rw [hv] at h6; cases h6; done)
        |
          refine r_not rfl rfl rfl ?_
          refine r_pick_f rfl rfl rfl rfl ?_
          refine R_nil ?_
          refine K_tn ?_
          refine K_cond_t rfl ?_
          refine K_seq ?_
          refine R_region ?_
          refine r_assign rfl rfl rfl ?_
          refine R_nil ?_
          refine K_tn ?_
          refine K_ret ?_
          refine K_tr ?_
          refine K_done (H' := []) rfl rfl (.s (.tmp rfl) .z) (by repeat (first | exact .z | apply Rems.s Rem.z | apply Rems.s (Rem.s Rem.z) | apply Rems.s (Rem.s (Rem.s Rem.z)) | apply Rems.s (Rem.s (Rem.s (Rem.s Rem.z))) | apply Rems.s (Rem.s (Rem.s (Rem.s (Rem.s Rem.z)))) | apply Rems.s (Rem.s (Rem.s (Rem.s (Rem.s (Rem.s Rem.z))))) | apply Rems.s (Rem.s (Rem.s (Rem.s (Rem.s (Rem.s (Rem.s Rem.z)))))) | apply Rems.s (Rem.s (Rem.s (Rem.s (Rem.s (Rem.s (Rem.s (Rem.s Rem.z))))))) | apply Rems.s (Rem.s (Rem.s (Rem.s (Rem.s (Rem.s (Rem.s (Rem.s (Rem.s Rem.z)))))))) | apply Rems.s (Rem.s (Rem.s (Rem.s (Rem.s (Rem.s (Rem.s (Rem.s (Rem.s (Rem.s Rem.z))))))))))) ?_
          refine ⟨?_, rfl⟩
          simp [packV]
  · first
    | (exfalso; rw [hv] at h6; cases h6; done)
    |
      refine r_not rfl rfl rfl ?_
      refine r_move rfl rfl rfl ?_
      refine r_skip rfl rfl ?_
      refine r_skip rfl rfl ?_
      refine r_skip rfl rfl ?_
      refine r_skip rfl rfl ?_
      refine r_skip rfl rfl ?_
      refine r_skip rfl rfl ?_
      refine r_pick_t rfl rfl rfl rfl ?_
      refine R_nil ?_
      refine K_tn ?_
      refine K_cond_t rfl ?_
      refine K_seq ?_
      refine R_region ?_
      refine r_assign rfl rfl rfl ?_
      refine R_nil ?_
      refine K_tn ?_
      refine K_ret ?_
      refine K_tr ?_
      refine K_done (H' := []) rfl rfl (.s (.tmp rfl) .z) (by repeat (first | exact .z | apply Rems.s Rem.z | apply Rems.s (Rem.s Rem.z) | apply Rems.s (Rem.s (Rem.s Rem.z)) | apply Rems.s (Rem.s (Rem.s (Rem.s Rem.z))) | apply Rems.s (Rem.s (Rem.s (Rem.s (Rem.s Rem.z)))) | apply Rems.s (Rem.s (Rem.s (Rem.s (Rem.s (Rem.s Rem.z))))) | apply Rems.s (Rem.s (Rem.s (Rem.s (Rem.s (Rem.s (Rem.s Rem.z)))))) | apply Rems.s (Rem.s (Rem.s (Rem.s (Rem.s (Rem.s (Rem.s (Rem.s Rem.z))))))) | apply Rems.s (Rem.s (Rem.s (Rem.s (Rem.s (Rem.s (Rem.s (Rem.s (Rem.s Rem.z)))))))) | apply Rems.s (Rem.s (Rem.s (Rem.s (Rem.s (Rem.s (Rem.s (Rem.s (Rem.s (Rem.s Rem.z))))))))))) ?_
      refine ⟨?_, rfl⟩
      simp [packV]

set_option maxRecDepth 20000 in
theorem validCrate_in (n : Nat) (rs : List Nat) (hl : rs.length = 16) (hn : n ≤ 16) : SpecV Try.prog 61 [.agg (.int .i8 n :: fl .f32 rs).toArray] [] (.bool (vCrate n rs)) := by
  refine spec_of Try.func61 rfl Try.ntmps61 rfl (fun w0 => ?_)
  have hv : inR (n : Int) 0 16 = true := by simp [inR]; omega
  have g1 : ∀ i, i < n → (Value.int .i8 (n : Int) :: fl .f32 rs)[0 + 1 + i * 1]? = some (.float .f32 ((rs.take n).getD i 0)) := fun i hi => by
    rw [gC (by omega)]; simp [List.getD_eq_getElem?_getD, List.getElem?_take, hi]
  have g2 : ∀ i, i < 16 - n → (Value.int .i8 (n : Int) :: fl .f32 rs)[(if 16 = n then 0 + 1 else 0 + 1 + n * 1) + i * 1]? = some (.float .f32 ((rs.drop n).getD i 0)) := fun i hi => by
    rw [if_neg (by omega), show 0 + 1 + n * 1 + i * 1 = 0 + 1 + (n + i) * 1 from by omega, gC (by omega)]; simp [List.getD_eq_getElem?_getD, List.getElem?_drop]
  refine K_seq ?_
  refine R_region ?_
  refine r_box rfl rfl rfl rfl (fun b1 => ?_)
  refine r_assign rfl rfl rfl ?_
  refine R_nil ?_
  refine K_tn ?_
  refine K_seq ?_
  refine K_seq ?_
  refine R_region ?_
  refine r_fieldAddr fd_54_0 rfl rfl rfl ?_
  refine r_load ag_22 rfl rfl rfl (by first | exact .h .z | exact .h (.s .z) | exact .h (.s (.s .z)) | exact .h (.s (.s (.s .z))) | exact .h (.s (.s (.s (.s .z)))) | exact .h (.s (.s (.s (.s (.s .z))))) | exact .h (.s (.s (.s (.s (.s (.s .z)))))) | exact .h (.s (.s (.s (.s (.s (.s (.s .z))))))) | exact .h (.s (.s (.s (.s (.s (.s (.s (.s .z)))))))) | exact .x .z | exact .x (.s .z) | exact .x (.s (.s .z)) | exact .x (.s (.s (.s .z))) | exact .x (.s (.s (.s (.s .z)))) | exact .x (.s (.s (.s (.s (.s .z))))) | exact .x (.s (.s (.s (.s (.s (.s .z))))))) (by first | rfl | exact gC (by omega) | exact takeC (by omega) | exact takeC0 (by omega)) ?_
  refine r_convI ⟨_, un_22⟩ un_2 rfl rfl rfl (i64K (by omega) (by omega)) ?_
  refine s_callV cb_66 rfl rfl rfl rfl rfl (within _ _ _) (by repeat (first | exact .z | refine .s (.h .z) ?_ | refine .s (.h (.s .z)) ?_ | refine .s (.h (.s (.s .z))) ?_ | refine .s (.h (.s (.s (.s .z)))) ?_ | refine .s (.h (.s (.s (.s (.s .z))))) ?_ | refine .s (.h (.s (.s (.s (.s (.s .z)))))) ?_ | refine .s (.h (.s (.s (.s (.s (.s (.s .z))))))) ?_ | refine .s (.h (.s (.s (.s (.s (.s (.s (.s .z)))))))) ?_ | refine .s (.h (.s (.s (.s (.s (.s (.s (.s (.s .z))))))))) ?_ | refine .s (.x .z) ?_ | refine .s (.x (.s .z)) ?_ | refine .s (.x (.s (.s .z))) ?_ | refine .s (.x (.s (.s (.s .z)))) ?_ | refine .s (.x (.s (.s (.s (.s .z))))) ?_ | refine .s (.x (.s (.s (.s (.s (.s .z)))))) ?_ | refine .s (.x (.s (.s (.s (.s (.s (.s .z))))))) ?_)) (fun h6 => ?_) (fun h6 => ?_)
  · first
    | (exfalso; first | (rw [hv] at h6; cases h6; done) | omega)
    |
      refine r_not rfl rfl rfl ?_
      refine r_move rfl rfl rfl ?_
      refine r_fieldAddr fd_54_1 rfl rfl rfl ?_
      refine r_fieldAddr fd_54_0 rfl rfl rfl ?_
      refine r_load ag_22 rfl rfl rfl (by first | exact .h .z | exact .h (.s .z) | exact .h (.s (.s .z)) | exact .h (.s (.s (.s .z))) | exact .h (.s (.s (.s (.s .z)))) | exact .h (.s (.s (.s (.s (.s .z))))) | exact .h (.s (.s (.s (.s (.s (.s .z)))))) | exact .h (.s (.s (.s (.s (.s (.s (.s .z))))))) | exact .h (.s (.s (.s (.s (.s (.s (.s (.s .z)))))))) | exact .x .z | exact .x (.s .z) | exact .x (.s (.s .z)) | exact .x (.s (.s (.s .z))) | exact .x (.s (.s (.s (.s .z)))) | exact .x (.s (.s (.s (.s (.s .z))))) | exact .x (.s (.s (.s (.s (.s (.s .z))))))) (by first | rfl | exact gC (by omega) | exact takeC (by omega) | exact takeC0 (by omega)) ?_
      refine op_pure rfl rfl (p_sliceA0 ar_24 sz_23 rfl rfl rfl rfl rfl (by omega) (by omega)) ?_
      refine s_callV cb_91 rfl rfl rfl rfl rfl (areParts _ _ _ _ _ _ _ (rs.take n) (by simp; omega) g1 (by omega)) (by repeat (first | exact .z | refine .s (.h .z) ?_ | refine .s (.h (.s .z)) ?_ | refine .s (.h (.s (.s .z))) ?_ | refine .s (.h (.s (.s (.s .z)))) ?_ | refine .s (.h (.s (.s (.s (.s .z))))) ?_ | refine .s (.h (.s (.s (.s (.s (.s .z)))))) ?_ | refine .s (.h (.s (.s (.s (.s (.s (.s .z))))))) ?_ | refine .s (.h (.s (.s (.s (.s (.s (.s (.s .z)))))))) ?_ | refine .s (.h (.s (.s (.s (.s (.s (.s (.s (.s .z))))))))) ?_ | refine .s (.x .z) ?_ | refine .s (.x (.s .z)) ?_ | refine .s (.x (.s (.s .z))) ?_ | refine .s (.x (.s (.s (.s .z)))) ?_ | refine .s (.x (.s (.s (.s (.s .z))))) ?_ | refine .s (.x (.s (.s (.s (.s (.s .z)))))) ?_ | refine .s (.x (.s (.s (.s (.s (.s (.s .z))))))) ?_)) (fun h13 => ?_) (fun h13 => ?_)
      · first
        | (exfalso; first | (rw [hv] at h6; cases h6; done) | omega)
        |
          refine r_not rfl rfl rfl ?_
          refine r_pick_f rfl rfl rfl rfl ?_
          refine R_nil ?_
          refine K_tn ?_
          refine K_cond_f rfl ?_
          refine K_skip ?_
          refine K_tn ?_
          refine K_seq ?_
          refine R_region ?_
          refine r_fieldAddr fd_54_1 rfl rfl rfl ?_
          refine r_fieldAddr fd_54_0 rfl rfl rfl ?_
          refine r_load ag_22 rfl rfl rfl (by first | exact .h .z | exact .h (.s .z) | exact .h (.s (.s .z)) | exact .h (.s (.s (.s .z))) | exact .h (.s (.s (.s (.s .z)))) | exact .h (.s (.s (.s (.s (.s .z))))) | exact .h (.s (.s (.s (.s (.s (.s .z)))))) | exact .h (.s (.s (.s (.s (.s (.s (.s .z))))))) | exact .h (.s (.s (.s (.s (.s (.s (.s (.s .z)))))))) | exact .x .z | exact .x (.s .z) | exact .x (.s (.s .z)) | exact .x (.s (.s (.s .z))) | exact .x (.s (.s (.s (.s .z)))) | exact .x (.s (.s (.s (.s (.s .z))))) | exact .x (.s (.s (.s (.s (.s (.s .z))))))) (by first | rfl | exact gC (by omega) | exact takeC (by omega) | exact takeC0 (by omega)) ?_
          refine op_pure rfl rfl (p_sliceA ar_24 sz_23 rfl rfl rfl rfl rfl ⟨by omega, by omega⟩ (by omega)) ?_
          refine r_callV cb_92 rfl rfl rfl rfl rfl (containsFuncF _ _ _ _ _ _ _ (rs.drop n) (by simp; omega) g2 93 [] [] [] (fun a => !same a 0) cb_93 validCrate1 (by omega)) (by repeat (first | exact .z | refine .s (.h .z) ?_ | refine .s (.h (.s .z)) ?_ | refine .s (.h (.s (.s .z))) ?_ | refine .s (.h (.s (.s (.s .z)))) ?_ | refine .s (.h (.s (.s (.s (.s .z))))) ?_ | refine .s (.h (.s (.s (.s (.s (.s .z)))))) ?_ | refine .s (.h (.s (.s (.s (.s (.s (.s .z))))))) ?_ | refine .s (.h (.s (.s (.s (.s (.s (.s (.s .z)))))))) ?_ | refine .s (.h (.s (.s (.s (.s (.s (.s (.s (.s .z))))))))) ?_ | refine .s (.x .z) ?_ | refine .s (.x (.s .z)) ?_ | refine .s (.x (.s (.s .z))) ?_ | refine .s (.x (.s (.s (.s .z)))) ?_ | refine .s (.x (.s (.s (.s (.s .z))))) ?_ | refine .s (.x (.s (.s (.s (.s (.s .z)))))) ?_ | refine .s (.x (.s (.s (.s (.s (.s (.s .z))))))) ?_)) ?_
          refine r_not rfl rfl rfl ?_
          refine r_assign rfl rfl rfl ?_
          refine R_nil ?_
          refine K_tn ?_
          refine K_ret ?_
          refine K_done (H' := []) rfl rfl (.s (.tmp rfl) .z) (by repeat (first | exact .z | apply Rems.s Rem.z | apply Rems.s (Rem.s Rem.z) | apply Rems.s (Rem.s (Rem.s Rem.z)) | apply Rems.s (Rem.s (Rem.s (Rem.s Rem.z))) | apply Rems.s (Rem.s (Rem.s (Rem.s (Rem.s Rem.z)))) | apply Rems.s (Rem.s (Rem.s (Rem.s (Rem.s (Rem.s Rem.z))))) | apply Rems.s (Rem.s (Rem.s (Rem.s (Rem.s (Rem.s (Rem.s Rem.z)))))) | apply Rems.s (Rem.s (Rem.s (Rem.s (Rem.s (Rem.s (Rem.s (Rem.s Rem.z))))))) | apply Rems.s (Rem.s (Rem.s (Rem.s (Rem.s (Rem.s (Rem.s (Rem.s (Rem.s Rem.z)))))))) | apply Rems.s (Rem.s (Rem.s (Rem.s (Rem.s (Rem.s (Rem.s (Rem.s (Rem.s (Rem.s Rem.z))))))))))) ?_
          refine ⟨?_, rfl⟩
          first | (rw [vCrate_split hn hl]; simp [packV, *]; done) | (rw [vCrate_split hn hl, any_not (same · 0) (rs.drop n)]; simp [packV, *]; done)
      · first
        | (exfalso; first | (rw [hv] at h6; cases h6; done) | omega)
        |
          refine r_not rfl rfl rfl ?_
          refine r_pick_f rfl rfl rfl rfl ?_
          refine R_nil ?_
          refine K_tn ?_
          refine K_cond_t rfl ?_
          refine K_seq ?_
          refine R_region ?_
          refine r_assign rfl rfl rfl ?_
          refine R_nil ?_
          refine K_tn ?_
          refine K_ret ?_
          refine K_tr ?_
          refine K_done (H' := []) rfl rfl (.s (.tmp rfl) .z) (by repeat (first | exact .z | apply Rems.s Rem.z | apply Rems.s (Rem.s Rem.z) | apply Rems.s (Rem.s (Rem.s Rem.z)) | apply Rems.s (Rem.s (Rem.s (Rem.s Rem.z))) | apply Rems.s (Rem.s (Rem.s (Rem.s (Rem.s Rem.z)))) | apply Rems.s (Rem.s (Rem.s (Rem.s (Rem.s (Rem.s Rem.z))))) | apply Rems.s (Rem.s (Rem.s (Rem.s (Rem.s (Rem.s (Rem.s Rem.z)))))) | apply Rems.s (Rem.s (Rem.s (Rem.s (Rem.s (Rem.s (Rem.s (Rem.s Rem.z))))))) | apply Rems.s (Rem.s (Rem.s (Rem.s (Rem.s (Rem.s (Rem.s (Rem.s (Rem.s Rem.z)))))))) | apply Rems.s (Rem.s (Rem.s (Rem.s (Rem.s (Rem.s (Rem.s (Rem.s (Rem.s (Rem.s Rem.z))))))))))) ?_
          refine ⟨?_, rfl⟩
          first | (rw [vCrate_split hn hl]; simp [packV, *]; done) | (rw [vCrate_split hn hl, any_not (same · 0) (rs.drop n)]; simp [packV, *]; done)
  · first
    | (exfalso; first | (rw [hv] at h6; cases h6; done) | omega)
    |
      refine r_not rfl rfl rfl ?_
      refine r_move rfl rfl rfl ?_
      refine r_skip rfl rfl ?_
      refine r_skip rfl rfl ?_
      refine r_skip rfl rfl ?_
      refine r_skip rfl rfl ?_
      refine r_skip rfl rfl ?_
      refine r_skip rfl rfl ?_
      refine r_pick_t rfl rfl rfl rfl ?_
      refine R_nil ?_
      refine K_tn ?_
      refine K_cond_t rfl ?_
      refine K_seq ?_
      refine R_region ?_
      refine r_assign rfl rfl rfl ?_
      refine R_nil ?_
      refine K_tn ?_
      refine K_ret ?_
      refine K_tr ?_
      refine K_done (H' := []) rfl rfl (.s (.tmp rfl) .z) (by repeat (first | exact .z | apply Rems.s Rem.z | apply Rems.s (Rem.s Rem.z) | apply Rems.s (Rem.s (Rem.s Rem.z)) | apply Rems.s (Rem.s (Rem.s (Rem.s Rem.z))) | apply Rems.s (Rem.s (Rem.s (Rem.s (Rem.s Rem.z)))) | apply Rems.s (Rem.s (Rem.s (Rem.s (Rem.s (Rem.s Rem.z))))) | apply Rems.s (Rem.s (Rem.s (Rem.s (Rem.s (Rem.s (Rem.s Rem.z)))))) | apply Rems.s (Rem.s (Rem.s (Rem.s (Rem.s (Rem.s (Rem.s (Rem.s Rem.z))))))) | apply Rems.s (Rem.s (Rem.s (Rem.s (Rem.s (Rem.s (Rem.s (Rem.s (Rem.s Rem.z)))))))) | apply Rems.s (Rem.s (Rem.s (Rem.s (Rem.s (Rem.s (Rem.s (Rem.s (Rem.s (Rem.s Rem.z))))))))))) ?_
      refine ⟨?_, rfl⟩
      first | (rw [vCrate_split hn hl]; simp [packV, *]; done) | (rw [vCrate_split hn hl, any_not (same · 0) (rs.drop n)]; simp [packV, *]; done)

theorem validCrate (n : Int) (rs : List Nat) (hl : rs.length = 16) (hn : -128 ≤ n ∧ n ≤ 127) : SpecV Try.prog 61 [.agg (.int .i8 n :: fl .f32 rs).toArray] [] (.bool (vCrate n rs)) := by
  cases hv : inR n 0 16 with
  | false => rw [vCrate_bad hv]; exact validCrate_no n rs hn hv
  | true =>
    have h := hv
    simp only [inR, Bool.and_eq_true, decide_eq_true_eq] at h
    obtain ⟨m, rfl⟩ := Int.eq_ofNat_of_zero_le h.1
    exact validCrate_in m rs hl (by omega)

set_option maxRecDepth 20000 in
theorem fruits (b : Nat) (n : Nat) (rs : List Nat) (hn : n ≤ 16) (u : TypeId) (fr : Nat × Nat) : SpecV Try.prog 100 [.pointer (some ⟨b, 0, none⟩)] [(b, .cells (.int .i8 n :: fl .f32 rs).toArray u fr)] (.slice (some ⟨b, 0 + 1, none⟩) n 16) := by
  refine spec_of Try.func100 rfl Try.ntmps100 rfl (fun w0 => ?_)
  refine K_seq ?_
  refine R_region ?_
  refine r_assign rfl rfl rfl ?_
  refine R_nil ?_
  refine K_tn ?_
  refine K_seq ?_
  refine R_drawAll mixed (by kernel_rfl) ?_
  refine q_pure rfl rfl (p_move rfl) ?_
  refine q_pure rfl rfl (p_nilCheck rfl) ?_
  refine q_pure rfl rfl (p_fieldAddr fd_54_1 rfl) ?_
  refine q_pure rfl rfl (p_move rfl) ?_
  refine q_pure rfl rfl (p_nilCheck rfl) ?_
  refine q_pure rfl rfl (p_fieldAddr fd_54_0 rfl) ?_
  refine q_pure rfl rfl (p_load ag_22 rfl (by first | exact .h .z | exact .h (.s .z) | exact .h (.s (.s .z)) | exact .h (.s (.s (.s .z))) | exact .h (.s (.s (.s (.s .z)))) | exact .h (.s (.s (.s (.s (.s .z))))) | exact .h (.s (.s (.s (.s (.s (.s .z)))))) | exact .h (.s (.s (.s (.s (.s (.s (.s .z))))))) | exact .h (.s (.s (.s (.s (.s (.s (.s (.s .z)))))))) | exact .x .z | exact .x (.s .z) | exact .x (.s (.s .z)) | exact .x (.s (.s (.s .z))) | exact .x (.s (.s (.s (.s .z)))) | exact .x (.s (.s (.s (.s (.s .z))))) | exact .x (.s (.s (.s (.s (.s (.s .z))))))) (by first | rfl)) ?_
  refine q_pure rfl rfl (p_sliceA0 ar_24 sz_23 rfl rfl rfl rfl rfl (by omega) (by omega)) ?_
  refine q_pure rfl rfl (p_assign rfl) ?_
  refine q_nil ?_
  refine K_tn ?_
  refine K_ret ?_
  refine K_done (H' := []) rfl rfl (.s (.tmp rfl) .z) (by repeat (first | exact .z | apply Rems.s Rem.z | apply Rems.s (Rem.s Rem.z) | apply Rems.s (Rem.s (Rem.s Rem.z)) | apply Rems.s (Rem.s (Rem.s (Rem.s Rem.z))) | apply Rems.s (Rem.s (Rem.s (Rem.s (Rem.s Rem.z)))) | apply Rems.s (Rem.s (Rem.s (Rem.s (Rem.s (Rem.s Rem.z))))) | apply Rems.s (Rem.s (Rem.s (Rem.s (Rem.s (Rem.s (Rem.s Rem.z)))))) | apply Rems.s (Rem.s (Rem.s (Rem.s (Rem.s (Rem.s (Rem.s (Rem.s Rem.z))))))) | apply Rems.s (Rem.s (Rem.s (Rem.s (Rem.s (Rem.s (Rem.s (Rem.s (Rem.s Rem.z)))))))) | apply Rems.s (Rem.s (Rem.s (Rem.s (Rem.s (Rem.s (Rem.s (Rem.s (Rem.s (Rem.s Rem.z))))))))))) ?_
  refine ⟨?_, rfl⟩
  rfl

set_option maxRecDepth 20000 in
theorem toFloat32A16 (rs : List Nat) (hl : rs.length = 16) : SpecV Try.prog 58 [.agg (fl .f32 rs).toArray] [] (.agg (fl .f32 rs).toArray) := by
  refine spec_of Try.func58 rfl Try.ntmps58 rfl (fun w0 => ?_)
  refine K_seq ?_
  refine R_region ?_
  refine r_box rfl rfl rfl rfl (fun b1 => ?_)
  refine r_alloc zr_24 rfl rfl (fun b2 => ?_)
  refine R_nil ?_
  refine K_tn ?_
  refine K_seq ?_
  refine R_region ?_
  refine r_alloc zr_24 rfl rfl (fun b3 => ?_)
  refine R_nil ?_
  refine K_tn ?_
  refine K_seq ?_
  refine K_seq ?_
  refine R_region ?_
  refine r_assign rfl rfl rfl ?_
  refine R_nil ?_
  refine K_tn ?_
  refine K_block ?_
  refine K_loop (fun (k : Nat) => k ≤ 16) (fun k => [(1, .pointer (some ⟨b1, 0, none⟩)), (2, .pointer (some ⟨b2, 0, none⟩)), (3, .pointer (some ⟨b3, 0, none⟩)), (4, .int .i64 (k : Int))]) (fun k => [(b3, .cells (fl .f32 (cp rs k 16)).toArray 24 (0, 0)), (b2, .cells (fl .f32 (List.replicate 16 0)).toArray 24 (0, 0)), (b1, .cells (fl .f32 rs).toArray 24 (0, 0))]) (fun k => 16 - k) 0 (by omega) (by repeat (first | exact trivial | refine ⟨rfl, ?_⟩)) (by repeat (first | exact .z | apply Rems.s Rem.z | apply Rems.s (Rem.s Rem.z) | apply Rems.s (Rem.s (Rem.s Rem.z)) | apply Rems.s (Rem.s (Rem.s (Rem.s Rem.z))) | apply Rems.s (Rem.s (Rem.s (Rem.s (Rem.s Rem.z)))) | apply Rems.s (Rem.s (Rem.s (Rem.s (Rem.s (Rem.s Rem.z))))) | apply Rems.s (Rem.s (Rem.s (Rem.s (Rem.s (Rem.s (Rem.s Rem.z)))))) | apply Rems.s (Rem.s (Rem.s (Rem.s (Rem.s (Rem.s (Rem.s (Rem.s Rem.z))))))) | apply Rems.s (Rem.s (Rem.s (Rem.s (Rem.s (Rem.s (Rem.s (Rem.s (Rem.s Rem.z)))))))) | apply Rems.s (Rem.s (Rem.s (Rem.s (Rem.s (Rem.s (Rem.s (Rem.s (Rem.s (Rem.s Rem.z))))))))))) (fun k hp => ?_)
  refine K_seq ?_
  refine K_seq ?_
  refine R_region ?_
  refine r_move rfl rfl rfl ?_
  refine s_lss rfl rfl rfl rfl (fun h6 => ?_) (fun h6 => ?_)
  · first
    | (exfalso; omega)
    |
      refine R_nil ?_
      refine K_tn ?_
      refine K_cond_t rfl ?_
      refine K_skip ?_
      refine K_tn ?_
      refine K_seq ?_
      refine K_block ?_
      refine R_region ?_
      refine r_move rfl rfl rfl ?_
      refine r_move rfl rfl rfl ?_
      refine r_indexA ar_24 sz_23 rfl rfl rfl rfl (by omega) ?_
      refine r_load ag_23 rfl rfl rfl (by first | exact .h .z | exact .h (.s .z) | exact .h (.s (.s .z)) | exact .h (.s (.s (.s .z))) | exact .h (.s (.s (.s (.s .z)))) | exact .h (.s (.s (.s (.s (.s .z))))) | exact .h (.s (.s (.s (.s (.s (.s .z)))))) | exact .h (.s (.s (.s (.s (.s (.s (.s .z))))))) | exact .h (.s (.s (.s (.s (.s (.s (.s (.s .z)))))))) | exact .x .z | exact .x (.s .z) | exact .x (.s (.s .z)) | exact .x (.s (.s (.s .z))) | exact .x (.s (.s (.s (.s .z)))) | exact .x (.s (.s (.s (.s (.s .z))))) | exact .x (.s (.s (.s (.s (.s (.s .z))))))) (by first | rfl | exact gF0 (by omega) | exact takeF (by simp [cp, hl]; omega) | exact takeF (by simp [cp, hl])) ?_
      refine r_indexA ar_24 sz_23 rfl rfl rfl rfl (by omega) ?_
      refine r_store sz_23 rfl rfl rfl rfl (by first | exact .z | exact (.s .z) | exact (.s (.s .z)) | exact (.s (.s (.s .z))) | exact (.s (.s (.s (.s .z)))) | exact (.s (.s (.s (.s (.s .z))))) | exact (.s (.s (.s (.s (.s (.s .z)))))) | exact (.s (.s (.s (.s (.s (.s (.s .z))))))) | exact (.s (.s (.s (.s (.s (.s (.s (.s .z)))))))) | exact (.s (.s (.s (.s (.s (.s (.s (.s (.s .z)))))))))) (by first | rfl | exact bltF0 (by simp [cp, hl]; omega) | (simp [cp, hl, fl_length]; done)) ?_
      refine R_nil ?_
      refine K_bn ?_
      refine K_tn ?_
      refine R_region ?_
      refine r_move rfl rfl rfl ?_
      first | refine r_addN rfl rfl rfl rfl (i64K (by omega) (by omega)) ?_ | refine r_add rfl rfl rfl rfl (i64K (by omega) (by omega)) ?_
      refine r_assign rfl rfl rfl ?_
      refine R_nil ?_
      refine K_tn ?_
      rw [setF0, cp_set (by omega) hp hl]
      exact K_again (k + 1) (by omega) (by omega) (by repeat (first | exact trivial | refine ⟨rfl, ?_⟩)) (by repeat (first | exact .z | apply Rems.s Rem.z | apply Rems.s (Rem.s Rem.z) | apply Rems.s (Rem.s (Rem.s Rem.z)) | apply Rems.s (Rem.s (Rem.s (Rem.s Rem.z))) | apply Rems.s (Rem.s (Rem.s (Rem.s (Rem.s Rem.z)))) | apply Rems.s (Rem.s (Rem.s (Rem.s (Rem.s (Rem.s Rem.z))))) | apply Rems.s (Rem.s (Rem.s (Rem.s (Rem.s (Rem.s (Rem.s Rem.z)))))) | apply Rems.s (Rem.s (Rem.s (Rem.s (Rem.s (Rem.s (Rem.s (Rem.s Rem.z))))))) | apply Rems.s (Rem.s (Rem.s (Rem.s (Rem.s (Rem.s (Rem.s (Rem.s (Rem.s Rem.z)))))))) | apply Rems.s (Rem.s (Rem.s (Rem.s (Rem.s (Rem.s (Rem.s (Rem.s (Rem.s (Rem.s Rem.z)))))))))))
  · first
    | (exfalso; omega)
    |
      refine R_nil ?_
      refine K_tn ?_
      refine K_cond_f rfl ?_
      refine K_exit ?_
      refine K_te ?_
      refine K_te ?_
      refine K_be ?_
      refine K_tn ?_
      refine K_seq ?_
      refine R_region ?_
      refine r_loadA ag_24 sz_24 rfl rfl rfl (by first | exact .h .z | exact .h (.s .z) | exact .h (.s (.s .z)) | exact .h (.s (.s (.s .z))) | exact .h (.s (.s (.s (.s .z)))) | exact .h (.s (.s (.s (.s (.s .z))))) | exact .h (.s (.s (.s (.s (.s (.s .z)))))) | exact .h (.s (.s (.s (.s (.s (.s (.s .z))))))) | exact .h (.s (.s (.s (.s (.s (.s (.s (.s .z)))))))) | exact .x .z | exact .x (.s .z) | exact .x (.s (.s .z)) | exact .x (.s (.s (.s .z))) | exact .x (.s (.s (.s (.s .z)))) | exact .x (.s (.s (.s (.s (.s .z))))) | exact .x (.s (.s (.s (.s (.s (.s .z))))))) (by first | rfl | exact gF0 (by omega) | exact takeF (by simp [cp, hl]; omega) | exact takeF (by simp [cp, hl])) ?_
      have hk16 : k = 16 := by omega
      subst hk16
      refine r_storeA sz_24 rfl rfl rfl (by first | rfl | exact bltF0 (by simp [cp, hl]; omega) | (simp [cp, hl, fl_length]; done)) (by first | rfl | exact fl_one _ _) (by first | exact .z | exact (.s .z) | exact (.s (.s .z)) | exact (.s (.s (.s .z))) | exact (.s (.s (.s (.s .z)))) | exact (.s (.s (.s (.s (.s .z))))) | exact (.s (.s (.s (.s (.s (.s .z)))))) | exact (.s (.s (.s (.s (.s (.s (.s .z))))))) | exact (.s (.s (.s (.s (.s (.s (.s (.s .z)))))))) | exact (.s (.s (.s (.s (.s (.s (.s (.s (.s .z)))))))))) (by first | rfl | exact bltF0 (by simp [cp, hl]; omega) | (simp [cp, hl, fl_length]; done)) ?_
      refine R_nil ?_
      refine K_tn ?_
      refine K_ret ?_
      rw [putF (by simp [cp, hl]), cp_full hl]
      refine K_done (H' := []) rfl rfl (.s (.cellA ag_24 sz_24 rfl (by first | exact .h .z | exact .h (.s .z) | exact .h (.s (.s .z)) | exact .h (.s (.s (.s .z))) | exact .h (.s (.s (.s (.s .z)))) | exact .h (.s (.s (.s (.s (.s .z))))) | exact .h (.s (.s (.s (.s (.s (.s .z)))))) | exact .h (.s (.s (.s (.s (.s (.s (.s .z))))))) | exact .h (.s (.s (.s (.s (.s (.s (.s (.s .z)))))))) | exact .x .z | exact .x (.s .z) | exact .x (.s (.s .z)) | exact .x (.s (.s (.s .z))) | exact .x (.s (.s (.s (.s .z)))) | exact .x (.s (.s (.s (.s (.s .z))))) | exact .x (.s (.s (.s (.s (.s (.s .z))))))) (by first | rfl | exact gF0 (by omega) | exact takeF (by simp [cp, hl]; omega) | exact takeF (by simp [cp, hl]))) .z) (by repeat (first | exact .z | apply Rems.s Rem.z | apply Rems.s (Rem.s Rem.z) | apply Rems.s (Rem.s (Rem.s Rem.z)) | apply Rems.s (Rem.s (Rem.s (Rem.s Rem.z))) | apply Rems.s (Rem.s (Rem.s (Rem.s (Rem.s Rem.z)))) | apply Rems.s (Rem.s (Rem.s (Rem.s (Rem.s (Rem.s Rem.z))))) | apply Rems.s (Rem.s (Rem.s (Rem.s (Rem.s (Rem.s (Rem.s Rem.z)))))) | apply Rems.s (Rem.s (Rem.s (Rem.s (Rem.s (Rem.s (Rem.s (Rem.s Rem.z))))))) | apply Rems.s (Rem.s (Rem.s (Rem.s (Rem.s (Rem.s (Rem.s (Rem.s (Rem.s Rem.z)))))))) | apply Rems.s (Rem.s (Rem.s (Rem.s (Rem.s (Rem.s (Rem.s (Rem.s (Rem.s (Rem.s Rem.z))))))))))) ?_
      refine ⟨?_, rfl⟩
      rfl

end Go.Proofs.Ytpanpkmheeenjaa
