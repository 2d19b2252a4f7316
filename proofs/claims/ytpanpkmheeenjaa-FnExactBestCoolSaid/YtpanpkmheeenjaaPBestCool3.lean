/- Walks of the functions of the program and of the reference, and what each of them returns. -/
import Derived.Test.YtpanpkmheeenjaaPBestCool2
set_option linter.unusedVariables false
set_option linter.unusedSimpArgs false
namespace Go.Proofs.Ytpanpkmheeenjaa
open Go.Sl
set_option maxRecDepth 20000 in
theorem spec_BC_no (n : Int) (rs : List Nat) (hl : rs.length = 16) (hn : -128 ≤ n ∧ n ≤ 127) (m : Int) (fs : List Nat) (hf : fs.length = 16) (hm : -128 ≤ m ∧ m ≤ 127) (g lo hi : Nat) (b len cap : Nat) (junk : List Value) (u : TypeId) (es : List Nat) (he : es.length = len) (hcap : len + junk.length = cap) (hb : len ≤ 1048576) (hno : bcCode n rs g m fs es lo hi ≠ 0) : SpecV Try.prog 54 [.agg (.int .i8 n :: fl .f32 rs).toArray, .float .f32 g, .agg (.int .i8 m :: fl .f32 fs).toArray, .slice (some ⟨b, 0, none⟩) len cap, .float .f32 lo, .float .f32 hi] [(b, .cells (fl .f32 es ++ junk).toArray u (0, 0))] (packV [.int .i64 (bcRes n rs g m fs es lo hi).1, .int .i64 (bcRes n rs g m fs es lo hi).2, .int .i64 (bcCode n rs g m fs es lo hi)]) := by
  refine spec_of Try.func54 rfl Try.ntmps54 rfl (fun w0 => ?_)
  refine K_seq ?_
  refine R_region ?_
  refine r_box rfl rfl rfl rfl (fun b6 => ?_)
  refine r_box rfl rfl rfl rfl (fun b8 => ?_)
  refine r_assign rfl rfl rfl ?_
  refine r_assign rfl rfl rfl ?_
  refine r_assign rfl rfl rfl ?_
  refine R_nil ?_
  refine K_tn ?_
  refine K_seq ?_
  refine R_region ?_
  refine r_move rfl rfl rfl ?_
  refine r_move rfl rfl rfl ?_
  refine r_move rfl rfl rfl ?_
  refine r_buildSlice sl_47 sz_23 zr_23 rfl rfl rfl rfl rfl (by first | rfl) (fun b26 => ?_)
  refine r_move rfl rfl rfl ?_
  refine r_append (xs := [.float .f32 g, .float .f32 lo, .float .f32 hi]) (junk := []) (ys := fl .f32 es) sl_47 sl_47 sz_23 zr_23 rfl by_23 rfl rfl rfl rfl rfl (.s (by first | exact .h .z | exact .h (.s .z) | exact .h (.s (.s .z)) | exact .h (.s (.s (.s .z))) | exact .h (.s (.s (.s (.s .z)))) | exact .h (.s (.s (.s (.s (.s .z))))) | exact .h (.s (.s (.s (.s (.s (.s .z)))))) | exact .h (.s (.s (.s (.s (.s (.s (.s .z))))))) | exact .h (.s (.s (.s (.s (.s (.s (.s (.s .z)))))))) | exact .x .z | exact .x (.s .z) | exact .x (.s (.s .z)) | exact .x (.s (.s (.s .z))) | exact .x (.s (.s (.s (.s .z)))) | exact .x (.s (.s (.s (.s (.s .z))))) | exact .x (.s (.s (.s (.s (.s (.s .z))))))) (takeF2 he)) (by first | exact .z | exact (.s .z) | exact (.s (.s .z)) | exact (.s (.s (.s .z))) | exact (.s (.s (.s (.s .z)))) | exact (.s (.s (.s (.s (.s .z))))) | exact (.s (.s (.s (.s (.s (.s .z)))))) | exact (.s (.s (.s (.s (.s (.s (.s .z))))))) | exact (.s (.s (.s (.s (.s (.s (.s (.s .z)))))))) | exact (.s (.s (.s (.s (.s (.s (.s (.s (.s .z)))))))))) rfl rfl (fl_one _ _) (by omega) (fun b28 cap28 junk28 u28 hj28 hc28 => ?_)
  refine r_assign rfl rfl rfl ?_
  refine R_nil ?_
  refine K_tn ?_
  refine K_seq ?_
  refine R_region ?_
  refine r_move rfl rfl rfl ?_
  refine r_move rfl rfl rfl ?_
  refine r_move rfl rfl rfl ?_
  refine v_fcmp rfl rfl rfl rfl (fun _ _ => run_fle) ?_
  refine r_callV cb_82 rfl rfl rfl rfl rfl (l04Crate _ n rs hl (by first | assumption | omega) _ _ _ m fs hf (by first | assumption | omega) _ _ _ _ _ _ _ _ _ (g :: lo :: hi :: es) (by simp; omega) (fun i hi2 => show (fl .f32 (g :: lo :: hi :: es) ++ junk28)[0 + i * 1]? = _ from gF (by simp; omega)) (fle lo hi) (by omega)) (by repeat (first | exact .z | refine .s (.h .z) ?_ | refine .s (.h (.s .z)) ?_ | refine .s (.h (.s (.s .z))) ?_ | refine .s (.h (.s (.s (.s .z)))) ?_ | refine .s (.h (.s (.s (.s (.s .z))))) ?_ | refine .s (.h (.s (.s (.s (.s (.s .z)))))) ?_ | refine .s (.h (.s (.s (.s (.s (.s (.s .z))))))) ?_ | refine .s (.h (.s (.s (.s (.s (.s (.s (.s .z)))))))) ?_ | refine .s (.h (.s (.s (.s (.s (.s (.s (.s (.s .z))))))))) ?_ | refine .s (.x .z) ?_ | refine .s (.x (.s .z)) ?_ | refine .s (.x (.s (.s .z))) ?_ | refine .s (.x (.s (.s (.s .z)))) ?_ | refine .s (.x (.s (.s (.s (.s .z))))) ?_ | refine .s (.x (.s (.s (.s (.s (.s .z)))))) ?_ | refine .s (.x (.s (.s (.s (.s (.s (.s .z))))))) ?_)) ?_
  refine r_assign rfl rfl rfl ?_
  refine R_nil ?_
  refine K_tn ?_
  refine K_seq ?_
  refine K_seq ?_
  refine R_region ?_
  refine r_move rfl rfl rfl ?_
  refine s_eql rfl rfl rfl rfl (fun h35 => ?_) (fun h35 => ?_)
  · first
    | (exfalso; first | omega | (unfold bcCode at hno; simp_all; done) | (unfold bcCode at hno; split at hno <;> simp_all <;> omega))
    |
      refine r_move rfl rfl rfl ?_
      refine r_move rfl rfl rfl ?_
      refine r_lenS sl_47 rfl rfl rfl ?_
      refine s_gtr rfl rfl rfl rfl (fun h39 => ?_) (fun h39 => ?_)
      · first
        | (exfalso; first | omega | (unfold bcCode at hno; simp_all; done) | (unfold bcCode at hno; split at hno <;> simp_all <;> omega))
        |
          refine r_pick_t rfl rfl rfl rfl ?_
          refine R_nil ?_
          refine K_tn ?_
          refine K_cond_t rfl ?_
          refine R_region ?_
          refine r_assign rfl rfl rfl ?_
          refine R_nil ?_
          refine K_tn ?_
          refine K_seq ?_
          refine K_seq ?_
          refine R_region ?_
          refine r_move rfl rfl rfl ?_
          refine s_eql rfl rfl rfl rfl (fun h42 => ?_) (fun h42 => ?_)
          · first
            | (exfalso; first | omega | (unfold bcCode at hno; simp_all; done) | (unfold bcCode at hno; split at hno <;> simp_all <;> omega))
            |
              refine r_move rfl rfl rfl ?_
              refine r_move rfl rfl rfl ?_
              refine r_lenS sl_47 rfl rfl rfl ?_
              refine s_eql rfl rfl rfl rfl (fun h46 => ?_) (fun h46 => ?_)
              · first
                | (exfalso; first | omega | (unfold bcCode at hno; simp_all; done) | (unfold bcCode at hno; split at hno <;> simp_all <;> omega))
                |
                  refine r_pick_t rfl rfl rfl rfl ?_
                  refine R_nil ?_
                  refine K_tn ?_
                  refine K_cond_t rfl ?_
                  refine R_region ?_
                  refine r_assign rfl rfl rfl ?_
                  refine R_nil ?_
                  refine K_tn ?_
                  refine K_seq ?_
                  refine K_seq ?_
                  refine R_region ?_
                  refine r_move rfl rfl rfl ?_
                  refine s_neq rfl rfl rfl rfl (fun h49 => ?_) (fun h49 => ?_)
                  · first
                    | (exfalso; first | omega | (unfold bcCode at hno; simp_all; done) | (unfold bcCode at hno; split at hno <;> simp_all <;> omega))
                    |
                      refine R_nil ?_
                      refine K_tn ?_
                      refine K_cond_t rfl ?_
                      refine K_seq ?_
                      refine R_region ?_
                      refine r_move rfl rfl rfl ?_
                      refine r_assign rfl rfl rfl ?_
                      refine r_assign rfl rfl rfl ?_
                      refine r_assign rfl rfl rfl ?_
                      refine R_nil ?_
                      refine K_tn ?_
                      refine K_ret ?_
                      refine K_tr ?_
                      refine K_done (H' := []) rfl rfl (.s (.tmp rfl) (.s (.tmp rfl) (.s (.tmp rfl) .z))) (by repeat (first | exact .z | apply Rems.s Rem.z | apply Rems.s (Rem.s Rem.z) | apply Rems.s (Rem.s (Rem.s Rem.z)) | apply Rems.s (Rem.s (Rem.s (Rem.s Rem.z))) | apply Rems.s (Rem.s (Rem.s (Rem.s (Rem.s Rem.z)))) | apply Rems.s (Rem.s (Rem.s (Rem.s (Rem.s (Rem.s Rem.z))))) | apply Rems.s (Rem.s (Rem.s (Rem.s (Rem.s (Rem.s (Rem.s Rem.z)))))) | apply Rems.s (Rem.s (Rem.s (Rem.s (Rem.s (Rem.s (Rem.s (Rem.s Rem.z))))))) | apply Rems.s (Rem.s (Rem.s (Rem.s (Rem.s (Rem.s (Rem.s (Rem.s (Rem.s Rem.z)))))))) | apply Rems.s (Rem.s (Rem.s (Rem.s (Rem.s (Rem.s (Rem.s (Rem.s (Rem.s (Rem.s Rem.z))))))))))) ?_
                      refine ⟨?_, rfl⟩
                      first | (rw [bc_no hno]; unfold bcCode; simp_all [packV]; done; done) | (rw [bc_no hno]; unfold bcCode; simp_all [packV]; omega; done) | (rw [bc_no hno]; unfold bcCode; simp_all [packV]; (intro hh; omega); done)
                  · first
                    | (exfalso; first | omega | (unfold bcCode at hno; simp_all; done) | (unfold bcCode at hno; split at hno <;> simp_all <;> omega))
                    |
                      refine R_nil ?_
                      refine K_tn ?_
                      refine K_cond_f rfl ?_
                      refine K_skip ?_
                      refine K_tn ?_
                      refine K_seq ?_
                      refine R_region ?_
                      refine r_assign rfl rfl rfl ?_
                      refine R_nil ?_
                      refine K_tn ?_
                      refine K_seq ?_
                      refine R_region ?_
                      refine r_assign rfl rfl rfl ?_
                      refine R_nil ?_
                      refine K_tn ?_
                      refine K_seq ?_
                      refine K_seq ?_
                      refine R_region ?_
                      refine r_assign rfl rfl rfl ?_
                      refine R_nil ?_
                      refine K_tn ?_
                      refine K_block ?_
                      refine K_loop (fun (k : Nat) => k ≤ len) (fun k => [(1, .float .f32 g), (3, .slice (some ⟨b, 0, none⟩) len cap), (4, .float .f32 lo), (5, .float .f32 hi), (6, .pointer (some ⟨b6, 0, none⟩)), (8, .pointer (some ⟨b8, 0, none⟩)), (17, .int .i64 (bestB (fineC n rs g m fs lo hi es) k).1), (18, .int .i64 (bestB (fineC n rs g m fs lo hi es) k).2), (19, .int .i64 (k : Int))]) (fun _ => [(b6, .cells (.int .i8 (n : Int) :: fl .f32 rs).toArray 28 (0, 0)), (b8, .cells (.int .i8 (m : Int) :: fl .f32 fs).toArray 54 (0, 0))]) (fun k => len - k) 0 (by omega) (by repeat (first | exact trivial | refine ⟨rfl, ?_⟩)) (by repeat (first | exact .z | apply Rems.s Rem.z | apply Rems.s (Rem.s Rem.z) | apply Rems.s (Rem.s (Rem.s Rem.z)) | apply Rems.s (Rem.s (Rem.s (Rem.s Rem.z))) | apply Rems.s (Rem.s (Rem.s (Rem.s (Rem.s Rem.z)))) | apply Rems.s (Rem.s (Rem.s (Rem.s (Rem.s (Rem.s Rem.z))))) | apply Rems.s (Rem.s (Rem.s (Rem.s (Rem.s (Rem.s (Rem.s Rem.z)))))) | apply Rems.s (Rem.s (Rem.s (Rem.s (Rem.s (Rem.s (Rem.s (Rem.s Rem.z))))))) | apply Rems.s (Rem.s (Rem.s (Rem.s (Rem.s (Rem.s (Rem.s (Rem.s (Rem.s Rem.z)))))))) | apply Rems.s (Rem.s (Rem.s (Rem.s (Rem.s (Rem.s (Rem.s (Rem.s (Rem.s (Rem.s Rem.z))))))))))) (fun k hp => ?_)
                      refine K_seq ?_
                      refine K_seq ?_
                      refine R_region ?_
                      refine r_move rfl rfl rfl ?_
                      refine r_move rfl rfl rfl ?_
                      refine r_lenS sl_47 rfl rfl rfl ?_
                      refine s_lss rfl rfl rfl rfl (fun h54 => ?_) (fun h54 => ?_)
                      · first
                        | (exfalso; first | omega | (unfold bcCode at hno; simp_all; done) | (unfold bcCode at hno; split at hno <;> simp_all <;> omega))
                        |
                          refine R_nil ?_
                          refine K_tn ?_
                          refine K_cond_t rfl ?_
                          refine K_skip ?_
                          refine K_tn ?_
                          refine K_seq ?_
                          refine K_block ?_
                          refine K_seq ?_
                          refine R_region ?_
                          refine r_move rfl rfl rfl ?_
                          refine r_move rfl rfl rfl ?_
                          refine r_indexS sl_47 sz_23 rfl rfl rfl rfl (by omega) ?_
                          refine r_load ag_23 rfl rfl rfl (by first | exact .h .z | exact .h (.s .z) | exact .h (.s (.s .z)) | exact .h (.s (.s (.s .z))) | exact .h (.s (.s (.s (.s .z)))) | exact .h (.s (.s (.s (.s (.s .z))))) | exact .h (.s (.s (.s (.s (.s (.s .z)))))) | exact .h (.s (.s (.s (.s (.s (.s (.s .z))))))) | exact .h (.s (.s (.s (.s (.s (.s (.s (.s .z)))))))) | exact .x .z | exact .x (.s .z) | exact .x (.s (.s .z)) | exact .x (.s (.s (.s .z))) | exact .x (.s (.s (.s (.s .z)))) | exact .x (.s (.s (.s (.s (.s .z))))) | exact .x (.s (.s (.s (.s (.s (.s .z))))))) (by first | rfl | exact gC (by omega) | exact takeC (by omega) | exact takeC0 (by omega)) ?_
                          refine r_move rfl rfl rfl ?_
                          refine r_move rfl rfl rfl ?_
                          refine r_move rfl rfl rfl ?_
                          refine r_callV cb_85 rfl rfl rfl rfl rfl (absurd rfl rfl) (by repeat (first | exact .z | refine .s (.h .z) ?_ | refine .s (.h (.s .z)) ?_ | refine .s (.h (.s (.s .z))) ?_ | refine .s (.h (.s (.s (.s .z)))) ?_ | refine .s (.h (.s (.s (.s (.s .z))))) ?_ | refine .s (.h (.s (.s (.s (.s (.s .z)))))) ?_ | refine .s (.h (.s (.s (.s (.s (.s (.s .z))))))) ?_ | refine .s (.h (.s (.s (.s (.s (.s (.s (.s .z)))))))) ?_ | refine .s (.h (.s (.s (.s (.s (.s (.s (.s (.s .z))))))))) ?_ | refine .s (.x .z) ?_ | refine .s (.x (.s .z)) ?_ | refine .s (.x (.s (.s .z))) ?_ | refine .s (.x (.s (.s (.s .z)))) ?_ | refine .s (.x (.s (.s (.s (.s .z))))) ?_ | refine .s (.x (.s (.s (.s (.s (.s .z)))))) ?_ | refine .s (.x (.s (.s (.s (.s (.s (.s .z))))))) ?_)) ?_
                          refine r_move rfl rfl rfl ?_
                          refine r_extract rfl rfl rfl rfl ?_
                          refine r_extract rfl rfl rfl rfl ?_
                          refine r_assign rfl rfl rfl ?_
                          refine r_assign rfl rfl rfl ?_
                          refine R_nil ?_
                          refine K_tn ?_
                          refine K_seq ?_
                          refine R_region ?_
                          refine r_fieldAddr fd_54_0 rfl rfl rfl ?_
                          refine r_load ag_22 rfl rfl rfl (by first | exact .h .z | exact .h (.s .z) | exact .h (.s (.s .z)) | exact .h (.s (.s (.s .z))) | exact .h (.s (.s (.s (.s .z)))) | exact .h (.s (.s (.s (.s (.s .z))))) | exact .h (.s (.s (.s (.s (.s (.s .z)))))) | exact .h (.s (.s (.s (.s (.s (.s (.s .z))))))) | exact .h (.s (.s (.s (.s (.s (.s (.s (.s .z)))))))) | exact .x .z | exact .x (.s .z) | exact .x (.s (.s .z)) | exact .x (.s (.s (.s .z))) | exact .x (.s (.s (.s (.s .z)))) | exact .x (.s (.s (.s (.s (.s .z))))) | exact .x (.s (.s (.s (.s (.s (.s .z))))))) (by first | rfl | exact gC (by omega) | exact takeC (by omega) | exact takeC0 (by omega)) ?_
                          refine r_convI ⟨_, un_22⟩ un_2 rfl rfl rfl (i64K (by omega) (by omega)) ?_
                          refine r_move rfl rfl rfl ?_
                          refine r_lenS sl_60 rfl rfl rfl ?_
                          first | refine r_subN rfl rfl rfl rfl (i64K (by omega) (by omega)) (by omega) ?_ | refine r_sub rfl rfl rfl rfl (i64K (by omega) (by omega)) ?_
                          refine r_move rfl rfl rfl ?_
                          refine r_lenS sl_60 rfl rfl rfl ?_
                          first | refine r_subN rfl rfl rfl rfl (i64K (by omega) (by omega)) (by omega) ?_ | refine r_sub rfl rfl rfl rfl (i64K (by omega) (by omega)) ?_
                          refine r_assign rfl rfl rfl ?_
                          refine R_nil ?_
                          refine K_tn ?_
                          refine K_seq ?_
                          refine R_region ?_
                          refine r_move rfl rfl rfl ?_
                          refine r_move rfl rfl rfl ?_
                          refine s_gtr rfl rfl rfl rfl (fun h79 => ?_) (fun h79 => ?_)
                          · first
                            | (exfalso; first | omega | (unfold bcCode at hno; simp_all; done) | (unfold bcCode at hno; split at hno <;> simp_all <;> omega))
                            |
                              refine R_nil ?_
                              refine K_tn ?_
                              refine K_cond_t rfl ?_
                              refine K_seq ?_
                              refine R_region ?_
                              refine r_move rfl rfl rfl ?_
                              refine r_assign rfl rfl rfl ?_
                              refine R_nil ?_
                              refine K_tn ?_
                              refine R_region ?_
                              refine r_move rfl rfl rfl ?_
                              refine r_assign rfl rfl rfl ?_
                              refine R_nil ?_
                              refine K_bn ?_
                              refine K_tn ?_
                              refine R_region ?_
                              refine r_move rfl rfl rfl ?_
                              first | refine r_addN rfl rfl rfl rfl (i64K (by omega) (by omega)) ?_ | refine r_add rfl rfl rfl rfl (i64K (by omega) (by omega)) ?_
                              refine r_assign rfl rfl rfl ?_
                              refine R_nil ?_
                              refine K_tn ?_
                              exact K_again (k + 1) (by omega) (by omega) (by repeat (first | exact trivial | refine ⟨rfl, ?_⟩ | refine ⟨congrArg (fun t : Int × Int => some (Value.int .i64 t.1)) (bestB_t (sc := (fineC n rs g m fs lo hi es)) h79).symm, ?_⟩ | refine ⟨congrArg (fun t : Int × Int => some (Value.int .i64 t.1)) (bestB_f (sc := (fineC n rs g m fs lo hi es)) h79).symm, ?_⟩ | refine ⟨congrArg (fun t : Int × Int => some (Value.int .i64 t.2)) (bestB_t (sc := (fineC n rs g m fs lo hi es)) h79).symm, ?_⟩ | refine ⟨congrArg (fun t : Int × Int => some (Value.int .i64 t.2)) (bestB_f (sc := (fineC n rs g m fs lo hi es)) h79).symm, ?_⟩)) (by repeat (first | exact .z | apply Rems.s Rem.z | apply Rems.s (Rem.s Rem.z) | apply Rems.s (Rem.s (Rem.s Rem.z)) | apply Rems.s (Rem.s (Rem.s (Rem.s Rem.z))) | apply Rems.s (Rem.s (Rem.s (Rem.s (Rem.s Rem.z)))) | apply Rems.s (Rem.s (Rem.s (Rem.s (Rem.s (Rem.s Rem.z))))) | apply Rems.s (Rem.s (Rem.s (Rem.s (Rem.s (Rem.s (Rem.s Rem.z)))))) | apply Rems.s (Rem.s (Rem.s (Rem.s (Rem.s (Rem.s (Rem.s (Rem.s Rem.z))))))) | apply Rems.s (Rem.s (Rem.s (Rem.s (Rem.s (Rem.s (Rem.s (Rem.s (Rem.s Rem.z)))))))) | apply Rems.s (Rem.s (Rem.s (Rem.s (Rem.s (Rem.s (Rem.s (Rem.s (Rem.s (Rem.s Rem.z)))))))))))
                          · first
                            | (exfalso; first | omega | (unfold bcCode at hno; simp_all; done) | (unfold bcCode at hno; split at hno <;> simp_all <;> omega))
                            |
                              refine R_nil ?_
                              refine K_tn ?_
                              refine K_cond_f rfl ?_
                              refine K_skip ?_
                              refine K_bn ?_
                              refine K_tn ?_
                              refine R_region ?_
                              refine r_move rfl rfl rfl ?_
                              first | refine r_addN rfl rfl rfl rfl (i64K (by omega) (by omega)) ?_ | refine r_add rfl rfl rfl rfl (i64K (by omega) (by omega)) ?_
                              refine r_assign rfl rfl rfl ?_
                              refine R_nil ?_
                              refine K_tn ?_
                              exact K_again (k + 1) (by omega) (by omega) (by repeat (first | exact trivial | refine ⟨rfl, ?_⟩ | refine ⟨congrArg (fun t : Int × Int => some (Value.int .i64 t.1)) (bestB_t (sc := (fineC n rs g m fs lo hi es)) h79).symm, ?_⟩ | refine ⟨congrArg (fun t : Int × Int => some (Value.int .i64 t.1)) (bestB_f (sc := (fineC n rs g m fs lo hi es)) h79).symm, ?_⟩ | refine ⟨congrArg (fun t : Int × Int => some (Value.int .i64 t.2)) (bestB_t (sc := (fineC n rs g m fs lo hi es)) h79).symm, ?_⟩ | refine ⟨congrArg (fun t : Int × Int => some (Value.int .i64 t.2)) (bestB_f (sc := (fineC n rs g m fs lo hi es)) h79).symm, ?_⟩)) (by repeat (first | exact .z | apply Rems.s Rem.z | apply Rems.s (Rem.s Rem.z) | apply Rems.s (Rem.s (Rem.s Rem.z)) | apply Rems.s (Rem.s (Rem.s (Rem.s Rem.z))) | apply Rems.s (Rem.s (Rem.s (Rem.s (Rem.s Rem.z)))) | apply Rems.s (Rem.s (Rem.s (Rem.s (Rem.s (Rem.s Rem.z))))) | apply Rems.s (Rem.s (Rem.s (Rem.s (Rem.s (Rem.s (Rem.s Rem.z)))))) | apply Rems.s (Rem.s (Rem.s (Rem.s (Rem.s (Rem.s (Rem.s (Rem.s Rem.z))))))) | apply Rems.s (Rem.s (Rem.s (Rem.s (Rem.s (Rem.s (Rem.s (Rem.s (Rem.s Rem.z)))))))) | apply Rems.s (Rem.s (Rem.s (Rem.s (Rem.s (Rem.s (Rem.s (Rem.s (Rem.s (Rem.s Rem.z)))))))))))
                      · first
                        | (exfalso; first | omega | (unfold bcCode at hno; simp_all; done) | (unfold bcCode at hno; split at hno <;> simp_all <;> omega))
                        |
                          refine R_nil ?_
                          refine K_tn ?_
                          refine K_cond_f rfl ?_
                          refine K_exit ?_
                          refine K_te ?_
                          refine K_te ?_
                          refine K_be ?_
                          refine K_tn ?_
                          refine K_seq ?_
                          refine R_region ?_
                          refine r_move rfl rfl rfl ?_
                          refine r_move rfl rfl rfl ?_
                          refine r_assign rfl rfl rfl ?_
                          refine r_assign rfl rfl rfl ?_
                          refine r_assign rfl rfl rfl ?_
                          refine R_nil ?_
                          refine K_tn ?_
                          refine K_ret ?_
                          refine K_done (H' := []) rfl rfl (.s (.tmp rfl) (.s (.tmp rfl) (.s (.tmp rfl) .z))) (by repeat (first | exact .z | apply Rems.s Rem.z | apply Rems.s (Rem.s Rem.z) | apply Rems.s (Rem.s (Rem.s Rem.z)) | apply Rems.s (Rem.s (Rem.s (Rem.s Rem.z))) | apply Rems.s (Rem.s (Rem.s (Rem.s (Rem.s Rem.z)))) | apply Rems.s (Rem.s (Rem.s (Rem.s (Rem.s (Rem.s Rem.z))))) | apply Rems.s (Rem.s (Rem.s (Rem.s (Rem.s (Rem.s (Rem.s Rem.z)))))) | apply Rems.s (Rem.s (Rem.s (Rem.s (Rem.s (Rem.s (Rem.s (Rem.s Rem.z))))))) | apply Rems.s (Rem.s (Rem.s (Rem.s (Rem.s (Rem.s (Rem.s (Rem.s (Rem.s Rem.z)))))))) | apply Rems.s (Rem.s (Rem.s (Rem.s (Rem.s (Rem.s (Rem.s (Rem.s (Rem.s (Rem.s Rem.z))))))))))) ?_
                          refine ⟨?_, rfl⟩
                          first | (rw [bc_no hno]; unfold bcCode; simp_all [packV]; done; done) | (rw [bc_no hno]; unfold bcCode; simp_all [packV]; omega; done) | (rw [bc_no hno]; unfold bcCode; simp_all [packV]; (intro hh; omega); done)
              · first
                | (exfalso; first | omega | (unfold bcCode at hno; simp_all; done) | (unfold bcCode at hno; split at hno <;> simp_all <;> omega))
                |
                  refine r_pick_t rfl rfl rfl rfl ?_
                  refine R_nil ?_
                  refine K_tn ?_
                  refine K_cond_f rfl ?_
                  refine K_skip ?_
                  refine K_tn ?_
                  refine K_seq ?_
                  refine K_seq ?_
                  refine R_region ?_
                  refine r_move rfl rfl rfl ?_
                  refine s_neq rfl rfl rfl rfl (fun h49 => ?_) (fun h49 => ?_)
                  · first
                    | (exfalso; first | omega | (unfold bcCode at hno; simp_all; done) | (unfold bcCode at hno; split at hno <;> simp_all <;> omega))
                    |
                      refine R_nil ?_
                      refine K_tn ?_
                      refine K_cond_t rfl ?_
                      refine K_seq ?_
                      refine R_region ?_
                      refine r_move rfl rfl rfl ?_
                      refine r_assign rfl rfl rfl ?_
                      refine r_assign rfl rfl rfl ?_
                      refine r_assign rfl rfl rfl ?_
                      refine R_nil ?_
                      refine K_tn ?_
                      refine K_ret ?_
                      refine K_tr ?_
                      refine K_done (H' := []) rfl rfl (.s (.tmp rfl) (.s (.tmp rfl) (.s (.tmp rfl) .z))) (by repeat (first | exact .z | apply Rems.s Rem.z | apply Rems.s (Rem.s Rem.z) | apply Rems.s (Rem.s (Rem.s Rem.z)) | apply Rems.s (Rem.s (Rem.s (Rem.s Rem.z))) | apply Rems.s (Rem.s (Rem.s (Rem.s (Rem.s Rem.z)))) | apply Rems.s (Rem.s (Rem.s (Rem.s (Rem.s (Rem.s Rem.z))))) | apply Rems.s (Rem.s (Rem.s (Rem.s (Rem.s (Rem.s (Rem.s Rem.z)))))) | apply Rems.s (Rem.s (Rem.s (Rem.s (Rem.s (Rem.s (Rem.s (Rem.s Rem.z))))))) | apply Rems.s (Rem.s (Rem.s (Rem.s (Rem.s (Rem.s (Rem.s (Rem.s (Rem.s Rem.z)))))))) | apply Rems.s (Rem.s (Rem.s (Rem.s (Rem.s (Rem.s (Rem.s (Rem.s (Rem.s (Rem.s Rem.z))))))))))) ?_
                      refine ⟨?_, rfl⟩
                      first | (rw [bc_no hno]; unfold bcCode; simp_all [packV]; done; done) | (rw [bc_no hno]; unfold bcCode; simp_all [packV]; omega; done) | (rw [bc_no hno]; unfold bcCode; simp_all [packV]; (intro hh; omega); done)
                  · first
                    | (exfalso; first | omega | (unfold bcCode at hno; simp_all; done) | (unfold bcCode at hno; split at hno <;> simp_all <;> omega))
                    |
                      refine R_nil ?_
                      refine K_tn ?_
                      refine K_cond_f rfl ?_
                      refine K_skip ?_
                      refine K_tn ?_
                      refine K_seq ?_
                      refine R_region ?_
                      refine r_assign rfl rfl rfl ?_
                      refine R_nil ?_
                      refine K_tn ?_
                      refine K_seq ?_
                      refine R_region ?_
                      refine r_assign rfl rfl rfl ?_
                      refine R_nil ?_
                      refine K_tn ?_
                      refine K_seq ?_
                      refine K_seq ?_
                      refine R_region ?_
                      refine r_assign rfl rfl rfl ?_
                      refine R_nil ?_
                      refine K_tn ?_
                      refine K_block ?_
                      refine K_loop (fun (k : Nat) => k ≤ len) (fun k => [(1, .float .f32 g), (3, .slice (some ⟨b, 0, none⟩) len cap), (4, .float .f32 lo), (5, .float .f32 hi), (6, .pointer (some ⟨b6, 0, none⟩)), (8, .pointer (some ⟨b8, 0, none⟩)), (17, .int .i64 (bestB (fineC n rs g m fs lo hi es) k).1), (18, .int .i64 (bestB (fineC n rs g m fs lo hi es) k).2), (19, .int .i64 (k : Int))]) (fun _ => [(b6, .cells (.int .i8 (n : Int) :: fl .f32 rs).toArray 28 (0, 0)), (b8, .cells (.int .i8 (m : Int) :: fl .f32 fs).toArray 54 (0, 0))]) (fun k => len - k) 0 (by omega) (by repeat (first | exact trivial | refine ⟨rfl, ?_⟩)) (by repeat (first | exact .z | apply Rems.s Rem.z | apply Rems.s (Rem.s Rem.z) | apply Rems.s (Rem.s (Rem.s Rem.z)) | apply Rems.s (Rem.s (Rem.s (Rem.s Rem.z))) | apply Rems.s (Rem.s (Rem.s (Rem.s (Rem.s Rem.z)))) | apply Rems.s (Rem.s (Rem.s (Rem.s (Rem.s (Rem.s Rem.z))))) | apply Rems.s (Rem.s (Rem.s (Rem.s (Rem.s (Rem.s (Rem.s Rem.z)))))) | apply Rems.s (Rem.s (Rem.s (Rem.s (Rem.s (Rem.s (Rem.s (Rem.s Rem.z))))))) | apply Rems.s (Rem.s (Rem.s (Rem.s (Rem.s (Rem.s (Rem.s (Rem.s (Rem.s Rem.z)))))))) | apply Rems.s (Rem.s (Rem.s (Rem.s (Rem.s (Rem.s (Rem.s (Rem.s (Rem.s (Rem.s Rem.z))))))))))) (fun k hp => ?_)
                      refine K_seq ?_
                      refine K_seq ?_
                      refine R_region ?_
                      refine r_move rfl rfl rfl ?_
                      refine r_move rfl rfl rfl ?_
                      refine r_lenS sl_47 rfl rfl rfl ?_
                      refine s_lss rfl rfl rfl rfl (fun h54 => ?_) (fun h54 => ?_)
                      · first
                        | (exfalso; first | omega | (unfold bcCode at hno; simp_all; done) | (unfold bcCode at hno; split at hno <;> simp_all <;> omega))
                        |
                          refine R_nil ?_
                          refine K_tn ?_
                          refine K_cond_t rfl ?_
                          refine K_skip ?_
                          refine K_tn ?_
                          refine K_seq ?_
                          refine K_block ?_
                          refine K_seq ?_
                          refine R_region ?_
                          refine r_move rfl rfl rfl ?_
                          refine r_move rfl rfl rfl ?_
                          refine r_indexS sl_47 sz_23 rfl rfl rfl rfl (by omega) ?_
                          refine r_load ag_23 rfl rfl rfl (by first | exact .h .z | exact .h (.s .z) | exact .h (.s (.s .z)) | exact .h (.s (.s (.s .z))) | exact .h (.s (.s (.s (.s .z)))) | exact .h (.s (.s (.s (.s (.s .z))))) | exact .h (.s (.s (.s (.s (.s (.s .z)))))) | exact .h (.s (.s (.s (.s (.s (.s (.s .z))))))) | exact .h (.s (.s (.s (.s (.s (.s (.s (.s .z)))))))) | exact .x .z | exact .x (.s .z) | exact .x (.s (.s .z)) | exact .x (.s (.s (.s .z))) | exact .x (.s (.s (.s (.s .z)))) | exact .x (.s (.s (.s (.s (.s .z))))) | exact .x (.s (.s (.s (.s (.s (.s .z))))))) (by first | rfl | exact gC (by omega) | exact takeC (by omega) | exact takeC0 (by omega)) ?_
                          refine r_move rfl rfl rfl ?_
                          refine r_move rfl rfl rfl ?_
                          refine r_move rfl rfl rfl ?_
                          refine r_callV cb_85 rfl rfl rfl rfl rfl (absurd rfl rfl) (by repeat (first | exact .z | refine .s (.h .z) ?_ | refine .s (.h (.s .z)) ?_ | refine .s (.h (.s (.s .z))) ?_ | refine .s (.h (.s (.s (.s .z)))) ?_ | refine .s (.h (.s (.s (.s (.s .z))))) ?_ | refine .s (.h (.s (.s (.s (.s (.s .z)))))) ?_ | refine .s (.h (.s (.s (.s (.s (.s (.s .z))))))) ?_ | refine .s (.h (.s (.s (.s (.s (.s (.s (.s .z)))))))) ?_ | refine .s (.h (.s (.s (.s (.s (.s (.s (.s (.s .z))))))))) ?_ | refine .s (.x .z) ?_ | refine .s (.x (.s .z)) ?_ | refine .s (.x (.s (.s .z))) ?_ | refine .s (.x (.s (.s (.s .z)))) ?_ | refine .s (.x (.s (.s (.s (.s .z))))) ?_ | refine .s (.x (.s (.s (.s (.s (.s .z)))))) ?_ | refine .s (.x (.s (.s (.s (.s (.s (.s .z))))))) ?_)) ?_
                          refine r_move rfl rfl rfl ?_
                          refine r_extract rfl rfl rfl rfl ?_
                          refine r_extract rfl rfl rfl rfl ?_
                          refine r_assign rfl rfl rfl ?_
                          refine r_assign rfl rfl rfl ?_
                          refine R_nil ?_
                          refine K_tn ?_
                          refine K_seq ?_
                          refine R_region ?_
                          refine r_fieldAddr fd_54_0 rfl rfl rfl ?_
                          refine r_load ag_22 rfl rfl rfl (by first | exact .h .z | exact .h (.s .z) | exact .h (.s (.s .z)) | exact .h (.s (.s (.s .z))) | exact .h (.s (.s (.s (.s .z)))) | exact .h (.s (.s (.s (.s (.s .z))))) | exact .h (.s (.s (.s (.s (.s (.s .z)))))) | exact .h (.s (.s (.s (.s (.s (.s (.s .z))))))) | exact .h (.s (.s (.s (.s (.s (.s (.s (.s .z)))))))) | exact .x .z | exact .x (.s .z) | exact .x (.s (.s .z)) | exact .x (.s (.s (.s .z))) | exact .x (.s (.s (.s (.s .z)))) | exact .x (.s (.s (.s (.s (.s .z))))) | exact .x (.s (.s (.s (.s (.s (.s .z))))))) (by first | rfl | exact gC (by omega) | exact takeC (by omega) | exact takeC0 (by omega)) ?_
                          refine r_convI ⟨_, un_22⟩ un_2 rfl rfl rfl (i64K (by omega) (by omega)) ?_
                          refine r_move rfl rfl rfl ?_
                          refine r_lenS sl_60 rfl rfl rfl ?_
                          first | refine r_subN rfl rfl rfl rfl (i64K (by omega) (by omega)) (by omega) ?_ | refine r_sub rfl rfl rfl rfl (i64K (by omega) (by omega)) ?_
                          refine r_move rfl rfl rfl ?_
                          refine r_lenS sl_60 rfl rfl rfl ?_
                          first | refine r_subN rfl rfl rfl rfl (i64K (by omega) (by omega)) (by omega) ?_ | refine r_sub rfl rfl rfl rfl (i64K (by omega) (by omega)) ?_
                          refine r_assign rfl rfl rfl ?_
                          refine R_nil ?_
                          refine K_tn ?_
                          refine K_seq ?_
                          refine R_region ?_
                          refine r_move rfl rfl rfl ?_
                          refine r_move rfl rfl rfl ?_
                          refine s_gtr rfl rfl rfl rfl (fun h79 => ?_) (fun h79 => ?_)
                          · first
                            | (exfalso; first | omega | (unfold bcCode at hno; simp_all; done) | (unfold bcCode at hno; split at hno <;> simp_all <;> omega))
                            |
                              refine R_nil ?_
                              refine K_tn ?_
                              refine K_cond_t rfl ?_
                              refine K_seq ?_
                              refine R_region ?_
                              refine r_move rfl rfl rfl ?_
                              refine r_assign rfl rfl rfl ?_
                              refine R_nil ?_
                              refine K_tn ?_
                              refine R_region ?_
                              refine r_move rfl rfl rfl ?_
                              refine r_assign rfl rfl rfl ?_
                              refine R_nil ?_
                              refine K_bn ?_
                              refine K_tn ?_
                              refine R_region ?_
                              refine r_move rfl rfl rfl ?_
                              first | refine r_addN rfl rfl rfl rfl (i64K (by omega) (by omega)) ?_ | refine r_add rfl rfl rfl rfl (i64K (by omega) (by omega)) ?_
                              refine r_assign rfl rfl rfl ?_
                              refine R_nil ?_
                              refine K_tn ?_
                              exact K_again (k + 1) (by omega) (by omega) (by repeat (first | exact trivial | refine ⟨rfl, ?_⟩ | refine ⟨congrArg (fun t : Int × Int => some (Value.int .i64 t.1)) (bestB_t (sc := (fineC n rs g m fs lo hi es)) h79).symm, ?_⟩ | refine ⟨congrArg (fun t : Int × Int => some (Value.int .i64 t.1)) (bestB_f (sc := (fineC n rs g m fs lo hi es)) h79).symm, ?_⟩ | refine ⟨congrArg (fun t : Int × Int => some (Value.int .i64 t.2)) (bestB_t (sc := (fineC n rs g m fs lo hi es)) h79).symm, ?_⟩ | refine ⟨congrArg (fun t : Int × Int => some (Value.int .i64 t.2)) (bestB_f (sc := (fineC n rs g m fs lo hi es)) h79).symm, ?_⟩)) (by repeat (first | exact .z | apply Rems.s Rem.z | apply Rems.s (Rem.s Rem.z) | apply Rems.s (Rem.s (Rem.s Rem.z)) | apply Rems.s (Rem.s (Rem.s (Rem.s Rem.z))) | apply Rems.s (Rem.s (Rem.s (Rem.s (Rem.s Rem.z)))) | apply Rems.s (Rem.s (Rem.s (Rem.s (Rem.s (Rem.s Rem.z))))) | apply Rems.s (Rem.s (Rem.s (Rem.s (Rem.s (Rem.s (Rem.s Rem.z)))))) | apply Rems.s (Rem.s (Rem.s (Rem.s (Rem.s (Rem.s (Rem.s (Rem.s Rem.z))))))) | apply Rems.s (Rem.s (Rem.s (Rem.s (Rem.s (Rem.s (Rem.s (Rem.s (Rem.s Rem.z)))))))) | apply Rems.s (Rem.s (Rem.s (Rem.s (Rem.s (Rem.s (Rem.s (Rem.s (Rem.s (Rem.s Rem.z)))))))))))
                          · first
                            | (exfalso; first | omega | (unfold bcCode at hno; simp_all; done) | (unfold bcCode at hno; split at hno <;> simp_all <;> omega))
                            |
                              refine R_nil ?_
                              refine K_tn ?_
                              refine K_cond_f rfl ?_
                              refine K_skip ?_
                              refine K_bn ?_
                              refine K_tn ?_
                              refine R_region ?_
                              refine r_move rfl rfl rfl ?_
                              first | refine r_addN rfl rfl rfl rfl (i64K (by omega) (by omega)) ?_ | refine r_add rfl rfl rfl rfl (i64K (by omega) (by omega)) ?_
                              refine r_assign rfl rfl rfl ?_
                              refine R_nil ?_
                              refine K_tn ?_
                              exact K_again (k + 1) (by omega) (by omega) (by repeat (first | exact trivial | refine ⟨rfl, ?_⟩ | refine ⟨congrArg (fun t : Int × Int => some (Value.int .i64 t.1)) (bestB_t (sc := (fineC n rs g m fs lo hi es)) h79).symm, ?_⟩ | refine ⟨congrArg (fun t : Int × Int => some (Value.int .i64 t.1)) (bestB_f (sc := (fineC n rs g m fs lo hi es)) h79).symm, ?_⟩ | refine ⟨congrArg (fun t : Int × Int => some (Value.int .i64 t.2)) (bestB_t (sc := (fineC n rs g m fs lo hi es)) h79).symm, ?_⟩ | refine ⟨congrArg (fun t : Int × Int => some (Value.int .i64 t.2)) (bestB_f (sc := (fineC n rs g m fs lo hi es)) h79).symm, ?_⟩)) (by repeat (first | exact .z | apply Rems.s Rem.z | apply Rems.s (Rem.s Rem.z) | apply Rems.s (Rem.s (Rem.s Rem.z)) | apply Rems.s (Rem.s (Rem.s (Rem.s Rem.z))) | apply Rems.s (Rem.s (Rem.s (Rem.s (Rem.s Rem.z)))) | apply Rems.s (Rem.s (Rem.s (Rem.s (Rem.s (Rem.s Rem.z))))) | apply Rems.s (Rem.s (Rem.s (Rem.s (Rem.s (Rem.s (Rem.s Rem.z)))))) | apply Rems.s (Rem.s (Rem.s (Rem.s (Rem.s (Rem.s (Rem.s (Rem.s Rem.z))))))) | apply Rems.s (Rem.s (Rem.s (Rem.s (Rem.s (Rem.s (Rem.s (Rem.s (Rem.s Rem.z)))))))) | apply Rems.s (Rem.s (Rem.s (Rem.s (Rem.s (Rem.s (Rem.s (Rem.s (Rem.s (Rem.s Rem.z)))))))))))
                      · first
                        | (exfalso; first | omega | (unfold bcCode at hno; simp_all; done) | (unfold bcCode at hno; split at hno <;> simp_all <;> omega))
                        |
                          refine R_nil ?_
                          refine K_tn ?_
                          refine K_cond_f rfl ?_
                          refine K_exit ?_
                          refine K_te ?_
                          refine K_te ?_
                          refine K_be ?_
                          refine K_tn ?_
                          refine K_seq ?_
                          refine R_region ?_
                          refine r_move rfl rfl rfl ?_
                          refine r_move rfl rfl rfl ?_
                          refine r_assign rfl rfl rfl ?_
                          refine r_assign rfl rfl rfl ?_
                          refine r_assign rfl rfl rfl ?_
                          refine R_nil ?_
                          refine K_tn ?_
                          refine K_ret ?_
                          refine K_done (H' := []) rfl rfl (.s (.tmp rfl) (.s (.tmp rfl) (.s (.tmp rfl) .z))) (by repeat (first | exact .z | apply Rems.s Rem.z | apply Rems.s (Rem.s Rem.z) | apply Rems.s (Rem.s (Rem.s Rem.z)) | apply Rems.s (Rem.s (Rem.s (Rem.s Rem.z))) | apply Rems.s (Rem.s (Rem.s (Rem.s (Rem.s Rem.z)))) | apply Rems.s (Rem.s (Rem.s (Rem.s (Rem.s (Rem.s Rem.z))))) | apply Rems.s (Rem.s (Rem.s (Rem.s (Rem.s (Rem.s (Rem.s Rem.z)))))) | apply Rems.s (Rem.s (Rem.s (Rem.s (Rem.s (Rem.s (Rem.s (Rem.s Rem.z))))))) | apply Rems.s (Rem.s (Rem.s (Rem.s (Rem.s (Rem.s (Rem.s (Rem.s (Rem.s Rem.z)))))))) | apply Rems.s (Rem.s (Rem.s (Rem.s (Rem.s (Rem.s (Rem.s (Rem.s (Rem.s (Rem.s Rem.z))))))))))) ?_
                          refine ⟨?_, rfl⟩
                          first | (rw [bc_no hno]; unfold bcCode; simp_all [packV]; done; done) | (rw [bc_no hno]; unfold bcCode; simp_all [packV]; omega; done) | (rw [bc_no hno]; unfold bcCode; simp_all [packV]; (intro hh; omega); done)
          · first
            | (exfalso; first | omega | (unfold bcCode at hno; simp_all; done) | (unfold bcCode at hno; split at hno <;> simp_all <;> omega))
            |
              refine r_move rfl rfl rfl ?_
              refine r_skip rfl rfl ?_
              refine r_skip rfl rfl ?_
              refine r_skip rfl rfl ?_
              refine r_pick_f rfl rfl rfl rfl ?_
              refine R_nil ?_
              refine K_tn ?_
              refine K_cond_f rfl ?_
              refine K_skip ?_
              refine K_tn ?_
              refine K_seq ?_
              refine K_seq ?_
              refine R_region ?_
              refine r_move rfl rfl rfl ?_
              refine s_neq rfl rfl rfl rfl (fun h49 => ?_) (fun h49 => ?_)
              · first
                | (exfalso; first | omega | (unfold bcCode at hno; simp_all; done) | (unfold bcCode at hno; split at hno <;> simp_all <;> omega))
                |
                  refine R_nil ?_
                  refine K_tn ?_
                  refine K_cond_t rfl ?_
                  refine K_seq ?_
                  refine R_region ?_
                  refine r_move rfl rfl rfl ?_
                  refine r_assign rfl rfl rfl ?_
                  refine r_assign rfl rfl rfl ?_
                  refine r_assign rfl rfl rfl ?_
                  refine R_nil ?_
                  refine K_tn ?_
                  refine K_ret ?_
                  refine K_tr ?_
                  refine K_done (H' := []) rfl rfl (.s (.tmp rfl) (.s (.tmp rfl) (.s (.tmp rfl) .z))) (by repeat (first | exact .z | apply Rems.s Rem.z | apply Rems.s (Rem.s Rem.z) | apply Rems.s (Rem.s (Rem.s Rem.z)) | apply Rems.s (Rem.s (Rem.s (Rem.s Rem.z))) | apply Rems.s (Rem.s (Rem.s (Rem.s (Rem.s Rem.z)))) | apply Rems.s (Rem.s (Rem.s (Rem.s (Rem.s (Rem.s Rem.z))))) | apply Rems.s (Rem.s (Rem.s (Rem.s (Rem.s (Rem.s (Rem.s Rem.z)))))) | apply Rems.s (Rem.s (Rem.s (Rem.s (Rem.s (Rem.s (Rem.s (Rem.s Rem.z))))))) | apply Rems.s (Rem.s (Rem.s (Rem.s (Rem.s (Rem.s (Rem.s (Rem.s (Rem.s Rem.z)))))))) | apply Rems.s (Rem.s (Rem.s (Rem.s (Rem.s (Rem.s (Rem.s (Rem.s (Rem.s (Rem.s Rem.z))))))))))) ?_
                  refine ⟨?_, rfl⟩
                  first | (rw [bc_no hno]; unfold bcCode; simp_all [packV]; done; done) | (rw [bc_no hno]; unfold bcCode; simp_all [packV]; omega; done) | (rw [bc_no hno]; unfold bcCode; simp_all [packV]; (intro hh; omega); done)
              · first
                | (exfalso; first | omega | (unfold bcCode at hno; simp_all; done) | (unfold bcCode at hno; split at hno <;> simp_all <;> omega))
                |
                  refine R_nil ?_
                  refine K_tn ?_
                  refine K_cond_f rfl ?_
                  refine K_skip ?_
                  refine K_tn ?_
                  refine K_seq ?_
                  refine R_region ?_
                  refine r_assign rfl rfl rfl ?_
                  refine R_nil ?_
                  refine K_tn ?_
                  refine K_seq ?_
                  refine R_region ?_
                  refine r_assign rfl rfl rfl ?_
                  refine R_nil ?_
                  refine K_tn ?_
                  refine K_seq ?_
                  refine K_seq ?_
                  refine R_region ?_
                  refine r_assign rfl rfl rfl ?_
                  refine R_nil ?_
                  refine K_tn ?_
                  refine K_block ?_
                  refine K_loop (fun (k : Nat) => k ≤ len) (fun k => [(1, .float .f32 g), (3, .slice (some ⟨b, 0, none⟩) len cap), (4, .float .f32 lo), (5, .float .f32 hi), (6, .pointer (some ⟨b6, 0, none⟩)), (8, .pointer (some ⟨b8, 0, none⟩)), (17, .int .i64 (bestB (fineC n rs g m fs lo hi es) k).1), (18, .int .i64 (bestB (fineC n rs g m fs lo hi es) k).2), (19, .int .i64 (k : Int))]) (fun _ => [(b6, .cells (.int .i8 (n : Int) :: fl .f32 rs).toArray 28 (0, 0)), (b8, .cells (.int .i8 (m : Int) :: fl .f32 fs).toArray 54 (0, 0))]) (fun k => len - k) 0 (by omega) (by repeat (first | exact trivial | refine ⟨rfl, ?_⟩)) (by repeat (first | exact .z | apply Rems.s Rem.z | apply Rems.s (Rem.s Rem.z) | apply Rems.s (Rem.s (Rem.s Rem.z)) | apply Rems.s (Rem.s (Rem.s (Rem.s Rem.z))) | apply Rems.s (Rem.s (Rem.s (Rem.s (Rem.s Rem.z)))) | apply Rems.s (Rem.s (Rem.s (Rem.s (Rem.s (Rem.s Rem.z))))) | apply Rems.s (Rem.s (Rem.s (Rem.s (Rem.s (Rem.s (Rem.s Rem.z)))))) | apply Rems.s (Rem.s (Rem.s (Rem.s (Rem.s (Rem.s (Rem.s (Rem.s Rem.z))))))) | apply Rems.s (Rem.s (Rem.s (Rem.s (Rem.s (Rem.s (Rem.s (Rem.s (Rem.s Rem.z)))))))) | apply Rems.s (Rem.s (Rem.s (Rem.s (Rem.s (Rem.s (Rem.s (Rem.s (Rem.s (Rem.s Rem.z))))))))))) (fun k hp => ?_)
                  refine K_seq ?_
                  refine K_seq ?_
                  refine R_region ?_
                  refine r_move rfl rfl rfl ?_
                  refine r_move rfl rfl rfl ?_
                  refine r_lenS sl_47 rfl rfl rfl ?_
                  refine s_lss rfl rfl rfl rfl (fun h54 => ?_) (fun h54 => ?_)
                  · first
                    | (exfalso; first | omega | (unfold bcCode at hno; simp_all; done) | (unfold bcCode at hno; split at hno <;> simp_all <;> omega))
                    |
                      refine R_nil ?_
                      refine K_tn ?_
                      refine K_cond_t rfl ?_
                      refine K_skip ?_
                      refine K_tn ?_
                      refine K_seq ?_
                      refine K_block ?_
                      refine K_seq ?_
                      refine R_region ?_
                      refine r_move rfl rfl rfl ?_
                      refine r_move rfl rfl rfl ?_
                      refine r_indexS sl_47 sz_23 rfl rfl rfl rfl (by omega) ?_
                      refine r_load ag_23 rfl rfl rfl (by first | exact .h .z | exact .h (.s .z) | exact .h (.s (.s .z)) | exact .h (.s (.s (.s .z))) | exact .h (.s (.s (.s (.s .z)))) | exact .h (.s (.s (.s (.s (.s .z))))) | exact .h (.s (.s (.s (.s (.s (.s .z)))))) | exact .h (.s (.s (.s (.s (.s (.s (.s .z))))))) | exact .h (.s (.s (.s (.s (.s (.s (.s (.s .z)))))))) | exact .x .z | exact .x (.s .z) | exact .x (.s (.s .z)) | exact .x (.s (.s (.s .z))) | exact .x (.s (.s (.s (.s .z)))) | exact .x (.s (.s (.s (.s (.s .z))))) | exact .x (.s (.s (.s (.s (.s (.s .z))))))) (by first | rfl | exact gC (by omega) | exact takeC (by omega) | exact takeC0 (by omega)) ?_
                      refine r_move rfl rfl rfl ?_
                      refine r_move rfl rfl rfl ?_
                      refine r_move rfl rfl rfl ?_
                      refine r_callV cb_85 rfl rfl rfl rfl rfl (absurd rfl rfl) (by repeat (first | exact .z | refine .s (.h .z) ?_ | refine .s (.h (.s .z)) ?_ | refine .s (.h (.s (.s .z))) ?_ | refine .s (.h (.s (.s (.s .z)))) ?_ | refine .s (.h (.s (.s (.s (.s .z))))) ?_ | refine .s (.h (.s (.s (.s (.s (.s .z)))))) ?_ | refine .s (.h (.s (.s (.s (.s (.s (.s .z))))))) ?_ | refine .s (.h (.s (.s (.s (.s (.s (.s (.s .z)))))))) ?_ | refine .s (.h (.s (.s (.s (.s (.s (.s (.s (.s .z))))))))) ?_ | refine .s (.x .z) ?_ | refine .s (.x (.s .z)) ?_ | refine .s (.x (.s (.s .z))) ?_ | refine .s (.x (.s (.s (.s .z)))) ?_ | refine .s (.x (.s (.s (.s (.s .z))))) ?_ | refine .s (.x (.s (.s (.s (.s (.s .z)))))) ?_ | refine .s (.x (.s (.s (.s (.s (.s (.s .z))))))) ?_)) ?_
                      refine r_move rfl rfl rfl ?_
                      refine r_extract rfl rfl rfl rfl ?_
                      refine r_extract rfl rfl rfl rfl ?_
                      refine r_assign rfl rfl rfl ?_
                      refine r_assign rfl rfl rfl ?_
                      refine R_nil ?_
                      refine K_tn ?_
                      refine K_seq ?_
                      refine R_region ?_
                      refine r_fieldAddr fd_54_0 rfl rfl rfl ?_
                      refine r_load ag_22 rfl rfl rfl (by first | exact .h .z | exact .h (.s .z) | exact .h (.s (.s .z)) | exact .h (.s (.s (.s .z))) | exact .h (.s (.s (.s (.s .z)))) | exact .h (.s (.s (.s (.s (.s .z))))) | exact .h (.s (.s (.s (.s (.s (.s .z)))))) | exact .h (.s (.s (.s (.s (.s (.s (.s .z))))))) | exact .h (.s (.s (.s (.s (.s (.s (.s (.s .z)))))))) | exact .x .z | exact .x (.s .z) | exact .x (.s (.s .z)) | exact .x (.s (.s (.s .z))) | exact .x (.s (.s (.s (.s .z)))) | exact .x (.s (.s (.s (.s (.s .z))))) | exact .x (.s (.s (.s (.s (.s (.s .z))))))) (by first | rfl | exact gC (by omega) | exact takeC (by omega) | exact takeC0 (by omega)) ?_
                      refine r_convI ⟨_, un_22⟩ un_2 rfl rfl rfl (i64K (by omega) (by omega)) ?_
                      refine r_move rfl rfl rfl ?_
                      refine r_lenS sl_60 rfl rfl rfl ?_
                      first | refine r_subN rfl rfl rfl rfl (i64K (by omega) (by omega)) (by omega) ?_ | refine r_sub rfl rfl rfl rfl (i64K (by omega) (by omega)) ?_
                      refine r_move rfl rfl rfl ?_
                      refine r_lenS sl_60 rfl rfl rfl ?_
                      first | refine r_subN rfl rfl rfl rfl (i64K (by omega) (by omega)) (by omega) ?_ | refine r_sub rfl rfl rfl rfl (i64K (by omega) (by omega)) ?_
                      refine r_assign rfl rfl rfl ?_
                      refine R_nil ?_
                      refine K_tn ?_
                      refine K_seq ?_
                      refine R_region ?_
                      refine r_move rfl rfl rfl ?_
                      refine r_move rfl rfl rfl ?_
                      refine s_gtr rfl rfl rfl rfl (fun h79 => ?_) (fun h79 => ?_)
                      · first
                        | (exfalso; first | omega | (unfold bcCode at hno; simp_all; done) | (unfold bcCode at hno; split at hno <;> simp_all <;> omega))
                        |
                          refine R_nil ?_
                          refine K_tn ?_
                          refine K_cond_t rfl ?_
                          refine K_seq ?_
                          refine R_region ?_
                          refine r_move rfl rfl rfl ?_
                          refine r_assign rfl rfl rfl ?_
                          refine R_nil ?_
                          refine K_tn ?_
                          refine R_region ?_
                          refine r_move rfl rfl rfl ?_
                          refine r_assign rfl rfl rfl ?_
                          refine R_nil ?_
                          refine K_bn ?_
                          refine K_tn ?_
                          refine R_region ?_
                          refine r_move rfl rfl rfl ?_
                          first | refine r_addN rfl rfl rfl rfl (i64K (by omega) (by omega)) ?_ | refine r_add rfl rfl rfl rfl (i64K (by omega) (by omega)) ?_
                          refine r_assign rfl rfl rfl ?_
                          refine R_nil ?_
                          refine K_tn ?_
                          exact K_again (k + 1) (by omega) (by omega) (by repeat (first | exact trivial | refine ⟨rfl, ?_⟩ | refine ⟨congrArg (fun t : Int × Int => some (Value.int .i64 t.1)) (bestB_t (sc := (fineC n rs g m fs lo hi es)) h79).symm, ?_⟩ | refine ⟨congrArg (fun t : Int × Int => some (Value.int .i64 t.1)) (bestB_f (sc := (fineC n rs g m fs lo hi es)) h79).symm, ?_⟩ | refine ⟨congrArg (fun t : Int × Int => some (Value.int .i64 t.2)) (bestB_t (sc := (fineC n rs g m fs lo hi es)) h79).symm, ?_⟩ | refine ⟨congrArg (fun t : Int × Int => some (Value.int .i64 t.2)) (bestB_f (sc := (fineC n rs g m fs lo hi es)) h79).symm, ?_⟩)) (by repeat (first | exact .z | apply Rems.s Rem.z | apply Rems.s (Rem.s Rem.z) | apply Rems.s (Rem.s (Rem.s Rem.z)) | apply Rems.s (Rem.s (Rem.s (Rem.s Rem.z))) | apply Rems.s (Rem.s (Rem.s (Rem.s (Rem.s Rem.z)))) | apply Rems.s (Rem.s (Rem.s (Rem.s (Rem.s (Rem.s Rem.z))))) | apply Rems.s (Rem.s (Rem.s (Rem.s (Rem.s (Rem.s (Rem.s Rem.z)))))) | apply Rems.s (Rem.s (Rem.s (Rem.s (Rem.s (Rem.s (Rem.s (Rem.s Rem.z))))))) | apply Rems.s (Rem.s (Rem.s (Rem.s (Rem.s (Rem.s (Rem.s (Rem.s (Rem.s Rem.z)))))))) | apply Rems.s (Rem.s (Rem.s (Rem.s (Rem.s (Rem.s (Rem.s (Rem.s (Rem.s (Rem.s Rem.z)))))))))))
                      · first
                        | (exfalso; first | omega | (unfold bcCode at hno; simp_all; done) | (unfold bcCode at hno; split at hno <;> simp_all <;> omega))
                        |
                          refine R_nil ?_
                          refine K_tn ?_
                          refine K_cond_f rfl ?_
                          refine K_skip ?_
                          refine K_bn ?_
                          refine K_tn ?_
                          refine R_region ?_
                          refine r_move rfl rfl rfl ?_
                          first | refine r_addN rfl rfl rfl rfl (i64K (by omega) (by omega)) ?_ | refine r_add rfl rfl rfl rfl (i64K (by omega) (by omega)) ?_
                          refine r_assign rfl rfl rfl ?_
                          refine R_nil ?_
                          refine K_tn ?_
                          exact K_again (k + 1) (by omega) (by omega) (by repeat (first | exact trivial | refine ⟨rfl, ?_⟩ | refine ⟨congrArg (fun t : Int × Int => some (Value.int .i64 t.1)) (bestB_t (sc := (fineC n rs g m fs lo hi es)) h79).symm, ?_⟩ | refine ⟨congrArg (fun t : Int × Int => some (Value.int .i64 t.1)) (bestB_f (sc := (fineC n rs g m fs lo hi es)) h79).symm, ?_⟩ | refine ⟨congrArg (fun t : Int × Int => some (Value.int .i64 t.2)) (bestB_t (sc := (fineC n rs g m fs lo hi es)) h79).symm, ?_⟩ | refine ⟨congrArg (fun t : Int × Int => some (Value.int .i64 t.2)) (bestB_f (sc := (fineC n rs g m fs lo hi es)) h79).symm, ?_⟩)) (by repeat (first | exact .z | apply Rems.s Rem.z | apply Rems.s (Rem.s Rem.z) | apply Rems.s (Rem.s (Rem.s Rem.z)) | apply Rems.s (Rem.s (Rem.s (Rem.s Rem.z))) | apply Rems.s (Rem.s (Rem.s (Rem.s (Rem.s Rem.z)))) | apply Rems.s (Rem.s (Rem.s (Rem.s (Rem.s (Rem.s Rem.z))))) | apply Rems.s (Rem.s (Rem.s (Rem.s (Rem.s (Rem.s (Rem.s Rem.z)))))) | apply Rems.s (Rem.s (Rem.s (Rem.s (Rem.s (Rem.s (Rem.s (Rem.s Rem.z))))))) | apply Rems.s (Rem.s (Rem.s (Rem.s (Rem.s (Rem.s (Rem.s (Rem.s (Rem.s Rem.z)))))))) | apply Rems.s (Rem.s (Rem.s (Rem.s (Rem.s (Rem.s (Rem.s (Rem.s (Rem.s (Rem.s Rem.z)))))))))))
                  · first
                    | (exfalso; first | omega | (unfold bcCode at hno; simp_all; done) | (unfold bcCode at hno; split at hno <;> simp_all <;> omega))
                    |
                      refine R_nil ?_
                      refine K_tn ?_
                      refine K_cond_f rfl ?_
                      refine K_exit ?_
                      refine K_te ?_
                      refine K_te ?_
                      refine K_be ?_
                      refine K_tn ?_
                      refine K_seq ?_
                      refine R_region ?_
                      refine r_move rfl rfl rfl ?_
                      refine r_move rfl rfl rfl ?_
                      refine r_assign rfl rfl rfl ?_
                      refine r_assign rfl rfl rfl ?_
                      refine r_assign rfl rfl rfl ?_
                      refine R_nil ?_
                      refine K_tn ?_
                      refine K_ret ?_
                      refine K_done (H' := []) rfl rfl (.s (.tmp rfl) (.s (.tmp rfl) (.s (.tmp rfl) .z))) (by repeat (first | exact .z | apply Rems.s Rem.z | apply Rems.s (Rem.s Rem.z) | apply Rems.s (Rem.s (Rem.s Rem.z)) | apply Rems.s (Rem.s (Rem.s (Rem.s Rem.z))) | apply Rems.s (Rem.s (Rem.s (Rem.s (Rem.s Rem.z)))) | apply Rems.s (Rem.s (Rem.s (Rem.s (Rem.s (Rem.s Rem.z))))) | apply Rems.s (Rem.s (Rem.s (Rem.s (Rem.s (Rem.s (Rem.s Rem.z)))))) | apply Rems.s (Rem.s (Rem.s (Rem.s (Rem.s (Rem.s (Rem.s (Rem.s Rem.z))))))) | apply Rems.s (Rem.s (Rem.s (Rem.s (Rem.s (Rem.s (Rem.s (Rem.s (Rem.s Rem.z)))))))) | apply Rems.s (Rem.s (Rem.s (Rem.s (Rem.s (Rem.s (Rem.s (Rem.s (Rem.s (Rem.s Rem.z))))))))))) ?_
                      refine ⟨?_, rfl⟩
                      first | (rw [bc_no hno]; unfold bcCode; simp_all [packV]; done; done) | (rw [bc_no hno]; unfold bcCode; simp_all [packV]; omega; done) | (rw [bc_no hno]; unfold bcCode; simp_all [packV]; (intro hh; omega); done)
      · first
        | (exfalso; first | omega | (unfold bcCode at hno; simp_all; done) | (unfold bcCode at hno; split at hno <;> simp_all <;> omega))
        |
          refine r_pick_t rfl rfl rfl rfl ?_
          refine R_nil ?_
          refine K_tn ?_
          refine K_cond_f rfl ?_
          refine K_skip ?_
          refine K_tn ?_
          refine K_seq ?_
          refine K_seq ?_
          refine R_region ?_
          refine r_move rfl rfl rfl ?_
          refine s_eql rfl rfl rfl rfl (fun h42 => ?_) (fun h42 => ?_)
          · first
            | (exfalso; first | omega | (unfold bcCode at hno; simp_all; done) | (unfold bcCode at hno; split at hno <;> simp_all <;> omega))
            |
              refine r_move rfl rfl rfl ?_
              refine r_move rfl rfl rfl ?_
              refine r_lenS sl_47 rfl rfl rfl ?_
              refine s_eql rfl rfl rfl rfl (fun h46 => ?_) (fun h46 => ?_)
              · first
                | (exfalso; first | omega | (unfold bcCode at hno; simp_all; done) | (unfold bcCode at hno; split at hno <;> simp_all <;> omega))
                |
                  refine r_pick_t rfl rfl rfl rfl ?_
                  refine R_nil ?_
                  refine K_tn ?_
                  refine K_cond_t rfl ?_
                  refine R_region ?_
                  refine r_assign rfl rfl rfl ?_
                  refine R_nil ?_
                  refine K_tn ?_
                  refine K_seq ?_
                  refine K_seq ?_
                  refine R_region ?_
                  refine r_move rfl rfl rfl ?_
                  refine s_neq rfl rfl rfl rfl (fun h49 => ?_) (fun h49 => ?_)
                  · first
                    | (exfalso; first | omega | (unfold bcCode at hno; simp_all; done) | (unfold bcCode at hno; split at hno <;> simp_all <;> omega))
                    |
                      refine R_nil ?_
                      refine K_tn ?_
                      refine K_cond_t rfl ?_
                      refine K_seq ?_
                      refine R_region ?_
                      refine r_move rfl rfl rfl ?_
                      refine r_assign rfl rfl rfl ?_
                      refine r_assign rfl rfl rfl ?_
                      refine r_assign rfl rfl rfl ?_
                      refine R_nil ?_
                      refine K_tn ?_
                      refine K_ret ?_
                      refine K_tr ?_
                      refine K_done (H' := []) rfl rfl (.s (.tmp rfl) (.s (.tmp rfl) (.s (.tmp rfl) .z))) (by repeat (first | exact .z | apply Rems.s Rem.z | apply Rems.s (Rem.s Rem.z) | apply Rems.s (Rem.s (Rem.s Rem.z)) | apply Rems.s (Rem.s (Rem.s (Rem.s Rem.z))) | apply Rems.s (Rem.s (Rem.s (Rem.s (Rem.s Rem.z)))) | apply Rems.s (Rem.s (Rem.s (Rem.s (Rem.s (Rem.s Rem.z))))) | apply Rems.s (Rem.s (Rem.s (Rem.s (Rem.s (Rem.s (Rem.s Rem.z)))))) | apply Rems.s (Rem.s (Rem.s (Rem.s (Rem.s (Rem.s (Rem.s (Rem.s Rem.z))))))) | apply Rems.s (Rem.s (Rem.s (Rem.s (Rem.s (Rem.s (Rem.s (Rem.s (Rem.s Rem.z)))))))) | apply Rems.s (Rem.s (Rem.s (Rem.s (Rem.s (Rem.s (Rem.s (Rem.s (Rem.s (Rem.s Rem.z))))))))))) ?_
                      refine ⟨?_, rfl⟩
                      first | (rw [bc_no hno]; unfold bcCode; simp_all [packV]; done; done) | (rw [bc_no hno]; unfold bcCode; simp_all [packV]; omega; done) | (rw [bc_no hno]; unfold bcCode; simp_all [packV]; (intro hh; omega); done)
                  · first
                    | (exfalso; first | omega | (unfold bcCode at hno; simp_all; done) | (unfold bcCode at hno; split at hno <;> simp_all <;> omega))
                    |
                      refine R_nil ?_
                      refine K_tn ?_
                      refine K_cond_f rfl ?_
                      refine K_skip ?_
                      refine K_tn ?_
                      refine K_seq ?_
                      refine R_region ?_
                      refine r_assign rfl rfl rfl ?_
                      refine R_nil ?_
                      refine K_tn ?_
                      refine K_seq ?_
                      refine R_region ?_
                      refine r_assign rfl rfl rfl ?_
                      refine R_nil ?_
                      refine K_tn ?_
                      refine K_seq ?_
                      refine K_seq ?_
                      refine R_region ?_
                      refine r_assign rfl rfl rfl ?_
                      refine R_nil ?_
                      refine K_tn ?_
                      refine K_block ?_
                      refine K_loop (fun (k : Nat) => k ≤ len) (fun k => [(1, .float .f32 g), (3, .slice (some ⟨b, 0, none⟩) len cap), (4, .float .f32 lo), (5, .float .f32 hi), (6, .pointer (some ⟨b6, 0, none⟩)), (8, .pointer (some ⟨b8, 0, none⟩)), (17, .int .i64 (bestB (fineC n rs g m fs lo hi es) k).1), (18, .int .i64 (bestB (fineC n rs g m fs lo hi es) k).2), (19, .int .i64 (k : Int))]) (fun _ => [(b6, .cells (.int .i8 (n : Int) :: fl .f32 rs).toArray 28 (0, 0)), (b8, .cells (.int .i8 (m : Int) :: fl .f32 fs).toArray 54 (0, 0))]) (fun k => len - k) 0 (by omega) (by repeat (first | exact trivial | refine ⟨rfl, ?_⟩)) (by repeat (first | exact .z | apply Rems.s Rem.z | apply Rems.s (Rem.s Rem.z) | apply Rems.s (Rem.s (Rem.s Rem.z)) | apply Rems.s (Rem.s (Rem.s (Rem.s Rem.z))) | apply Rems.s (Rem.s (Rem.s (Rem.s (Rem.s Rem.z)))) | apply Rems.s (Rem.s (Rem.s (Rem.s (Rem.s (Rem.s Rem.z))))) | apply Rems.s (Rem.s (Rem.s (Rem.s (Rem.s (Rem.s (Rem.s Rem.z)))))) | apply Rems.s (Rem.s (Rem.s (Rem.s (Rem.s (Rem.s (Rem.s (Rem.s Rem.z))))))) | apply Rems.s (Rem.s (Rem.s (Rem.s (Rem.s (Rem.s (Rem.s (Rem.s (Rem.s Rem.z)))))))) | apply Rems.s (Rem.s (Rem.s (Rem.s (Rem.s (Rem.s (Rem.s (Rem.s (Rem.s (Rem.s Rem.z))))))))))) (fun k hp => ?_)
                      refine K_seq ?_
                      refine K_seq ?_
                      refine R_region ?_
                      refine r_move rfl rfl rfl ?_
                      refine r_move rfl rfl rfl ?_
                      refine r_lenS sl_47 rfl rfl rfl ?_
                      refine s_lss rfl rfl rfl rfl (fun h54 => ?_) (fun h54 => ?_)
                      · first
                        | (exfalso; first | omega | (unfold bcCode at hno; simp_all; done) | (unfold bcCode at hno; split at hno <;> simp_all <;> omega))
                        |
                          refine R_nil ?_
                          refine K_tn ?_
                          refine K_cond_t rfl ?_
                          refine K_skip ?_
                          refine K_tn ?_
                          refine K_seq ?_
                          refine K_block ?_
                          refine K_seq ?_
                          refine R_region ?_
                          refine r_move rfl rfl rfl ?_
                          refine r_move rfl rfl rfl ?_
                          refine r_indexS sl_47 sz_23 rfl rfl rfl rfl (by omega) ?_
                          refine r_load ag_23 rfl rfl rfl (by first | exact .h .z | exact .h (.s .z) | exact .h (.s (.s .z)) | exact .h (.s (.s (.s .z))) | exact .h (.s (.s (.s (.s .z)))) | exact .h (.s (.s (.s (.s (.s .z))))) | exact .h (.s (.s (.s (.s (.s (.s .z)))))) | exact .h (.s (.s (.s (.s (.s (.s (.s .z))))))) | exact .h (.s (.s (.s (.s (.s (.s (.s (.s .z)))))))) | exact .x .z | exact .x (.s .z) | exact .x (.s (.s .z)) | exact .x (.s (.s (.s .z))) | exact .x (.s (.s (.s (.s .z)))) | exact .x (.s (.s (.s (.s (.s .z))))) | exact .x (.s (.s (.s (.s (.s (.s .z))))))) (by first | rfl | exact gC (by omega) | exact takeC (by omega) | exact takeC0 (by omega)) ?_
                          refine r_move rfl rfl rfl ?_
                          refine r_move rfl rfl rfl ?_
                          refine r_move rfl rfl rfl ?_
                          refine r_callV cb_85 rfl rfl rfl rfl rfl (absurd rfl rfl) (by repeat (first | exact .z | refine .s (.h .z) ?_ | refine .s (.h (.s .z)) ?_ | refine .s (.h (.s (.s .z))) ?_ | refine .s (.h (.s (.s (.s .z)))) ?_ | refine .s (.h (.s (.s (.s (.s .z))))) ?_ | refine .s (.h (.s (.s (.s (.s (.s .z)))))) ?_ | refine .s (.h (.s (.s (.s (.s (.s (.s .z))))))) ?_ | refine .s (.h (.s (.s (.s (.s (.s (.s (.s .z)))))))) ?_ | refine .s (.h (.s (.s (.s (.s (.s (.s (.s (.s .z))))))))) ?_ | refine .s (.x .z) ?_ | refine .s (.x (.s .z)) ?_ | refine .s (.x (.s (.s .z))) ?_ | refine .s (.x (.s (.s (.s .z)))) ?_ | refine .s (.x (.s (.s (.s (.s .z))))) ?_ | refine .s (.x (.s (.s (.s (.s (.s .z)))))) ?_ | refine .s (.x (.s (.s (.s (.s (.s (.s .z))))))) ?_)) ?_
                          refine r_move rfl rfl rfl ?_
                          refine r_extract rfl rfl rfl rfl ?_
                          refine r_extract rfl rfl rfl rfl ?_
                          refine r_assign rfl rfl rfl ?_
                          refine r_assign rfl rfl rfl ?_
                          refine R_nil ?_
                          refine K_tn ?_
                          refine K_seq ?_
                          refine R_region ?_
                          refine r_fieldAddr fd_54_0 rfl rfl rfl ?_
                          refine r_load ag_22 rfl rfl rfl (by first | exact .h .z | exact .h (.s .z) | exact .h (.s (.s .z)) | exact .h (.s (.s (.s .z))) | exact .h (.s (.s (.s (.s .z)))) | exact .h (.s (.s (.s (.s (.s .z))))) | exact .h (.s (.s (.s (.s (.s (.s .z)))))) | exact .h (.s (.s (.s (.s (.s (.s (.s .z))))))) | exact .h (.s (.s (.s (.s (.s (.s (.s (.s .z)))))))) | exact .x .z | exact .x (.s .z) | exact .x (.s (.s .z)) | exact .x (.s (.s (.s .z))) | exact .x (.s (.s (.s (.s .z)))) | exact .x (.s (.s (.s (.s (.s .z))))) | exact .x (.s (.s (.s (.s (.s (.s .z))))))) (by first | rfl | exact gC (by omega) | exact takeC (by omega) | exact takeC0 (by omega)) ?_
                          refine r_convI ⟨_, un_22⟩ un_2 rfl rfl rfl (i64K (by omega) (by omega)) ?_
                          refine r_move rfl rfl rfl ?_
                          refine r_lenS sl_60 rfl rfl rfl ?_
                          first | refine r_subN rfl rfl rfl rfl (i64K (by omega) (by omega)) (by omega) ?_ | refine r_sub rfl rfl rfl rfl (i64K (by omega) (by omega)) ?_
                          refine r_move rfl rfl rfl ?_
                          refine r_lenS sl_60 rfl rfl rfl ?_
                          first | refine r_subN rfl rfl rfl rfl (i64K (by omega) (by omega)) (by omega) ?_ | refine r_sub rfl rfl rfl rfl (i64K (by omega) (by omega)) ?_
                          refine r_assign rfl rfl rfl ?_
                          refine R_nil ?_
                          refine K_tn ?_
                          refine K_seq ?_
                          refine R_region ?_
                          refine r_move rfl rfl rfl ?_
                          refine r_move rfl rfl rfl ?_
                          refine s_gtr rfl rfl rfl rfl (fun h79 => ?_) (fun h79 => ?_)
                          · first
                            | (exfalso; first | omega | (unfold bcCode at hno; simp_all; done) | (unfold bcCode at hno; split at hno <;> simp_all <;> omega))
                            |
                              refine R_nil ?_
                              refine K_tn ?_
                              refine K_cond_t rfl ?_
                              refine K_seq ?_
                              refine R_region ?_
                              refine r_move rfl rfl rfl ?_
                              refine r_assign rfl rfl rfl ?_
                              refine R_nil ?_
                              refine K_tn ?_
                              refine R_region ?_
                              refine r_move rfl rfl rfl ?_
                              refine r_assign rfl rfl rfl ?_
                              refine R_nil ?_
                              refine K_bn ?_
                              refine K_tn ?_
                              refine R_region ?_
                              refine r_move rfl rfl rfl ?_
                              first | refine r_addN rfl rfl rfl rfl (i64K (by omega) (by omega)) ?_ | refine r_add rfl rfl rfl rfl (i64K (by omega) (by omega)) ?_
                              refine r_assign rfl rfl rfl ?_
                              refine R_nil ?_
                              refine K_tn ?_
                              exact K_again (k + 1) (by omega) (by omega) (by repeat (first | exact trivial | refine ⟨rfl, ?_⟩ | refine ⟨congrArg (fun t : Int × Int => some (Value.int .i64 t.1)) (bestB_t (sc := (fineC n rs g m fs lo hi es)) h79).symm, ?_⟩ | refine ⟨congrArg (fun t : Int × Int => some (Value.int .i64 t.1)) (bestB_f (sc := (fineC n rs g m fs lo hi es)) h79).symm, ?_⟩ | refine ⟨congrArg (fun t : Int × Int => some (Value.int .i64 t.2)) (bestB_t (sc := (fineC n rs g m fs lo hi es)) h79).symm, ?_⟩ | refine ⟨congrArg (fun t : Int × Int => some (Value.int .i64 t.2)) (bestB_f (sc := (fineC n rs g m fs lo hi es)) h79).symm, ?_⟩)) (by repeat (first | exact .z | apply Rems.s Rem.z | apply Rems.s (Rem.s Rem.z) | apply Rems.s (Rem.s (Rem.s Rem.z)) | apply Rems.s (Rem.s (Rem.s (Rem.s Rem.z))) | apply Rems.s (Rem.s (Rem.s (Rem.s (Rem.s Rem.z)))) | apply Rems.s (Rem.s (Rem.s (Rem.s (Rem.s (Rem.s Rem.z))))) | apply Rems.s (Rem.s (Rem.s (Rem.s (Rem.s (Rem.s (Rem.s Rem.z)))))) | apply Rems.s (Rem.s (Rem.s (Rem.s (Rem.s (Rem.s (Rem.s (Rem.s Rem.z))))))) | apply Rems.s (Rem.s (Rem.s (Rem.s (Rem.s (Rem.s (Rem.s (Rem.s (Rem.s Rem.z)))))))) | apply Rems.s (Rem.s (Rem.s (Rem.s (Rem.s (Rem.s (Rem.s (Rem.s (Rem.s (Rem.s Rem.z)))))))))))
                          · first
                            | (exfalso; first | omega | (unfold bcCode at hno; simp_all; done) | (unfold bcCode at hno; split at hno <;> simp_all <;> omega))
                            |
                              refine R_nil ?_
                              refine K_tn ?_
                              refine K_cond_f rfl ?_
                              refine K_skip ?_
                              refine K_bn ?_
                              refine K_tn ?_
                              refine R_region ?_
                              refine r_move rfl rfl rfl ?_
                              first | refine r_addN rfl rfl rfl rfl (i64K (by omega) (by omega)) ?_ | refine r_add rfl rfl rfl rfl (i64K (by omega) (by omega)) ?_
                              refine r_assign rfl rfl rfl ?_
                              refine R_nil ?_
                              refine K_tn ?_
                              exact K_again (k + 1) (by omega) (by omega) (by repeat (first | exact trivial | refine ⟨rfl, ?_⟩ | refine ⟨congrArg (fun t : Int × Int => some (Value.int .i64 t.1)) (bestB_t (sc := (fineC n rs g m fs lo hi es)) h79).symm, ?_⟩ | refine ⟨congrArg (fun t : Int × Int => some (Value.int .i64 t.1)) (bestB_f (sc := (fineC n rs g m fs lo hi es)) h79).symm, ?_⟩ | refine ⟨congrArg (fun t : Int × Int => some (Value.int .i64 t.2)) (bestB_t (sc := (fineC n rs g m fs lo hi es)) h79).symm, ?_⟩ | refine ⟨congrArg (fun t : Int × Int => some (Value.int .i64 t.2)) (bestB_f (sc := (fineC n rs g m fs lo hi es)) h79).symm, ?_⟩)) (by repeat (first | exact .z | apply Rems.s Rem.z | apply Rems.s (Rem.s Rem.z) | apply Rems.s (Rem.s (Rem.s Rem.z)) | apply Rems.s (Rem.s (Rem.s (Rem.s Rem.z))) | apply Rems.s (Rem.s (Rem.s (Rem.s (Rem.s Rem.z)))) | apply Rems.s (Rem.s (Rem.s (Rem.s (Rem.s (Rem.s Rem.z))))) | apply Rems.s (Rem.s (Rem.s (Rem.s (Rem.s (Rem.s (Rem.s Rem.z)))))) | apply Rems.s (Rem.s (Rem.s (Rem.s (Rem.s (Rem.s (Rem.s (Rem.s Rem.z))))))) | apply Rems.s (Rem.s (Rem.s (Rem.s (Rem.s (Rem.s (Rem.s (Rem.s (Rem.s Rem.z)))))))) | apply Rems.s (Rem.s (Rem.s (Rem.s (Rem.s (Rem.s (Rem.s (Rem.s (Rem.s (Rem.s Rem.z)))))))))))
                      · first
                        | (exfalso; first | omega | (unfold bcCode at hno; simp_all; done) | (unfold bcCode at hno; split at hno <;> simp_all <;> omega))
                        |
                          refine R_nil ?_
                          refine K_tn ?_
                          refine K_cond_f rfl ?_
                          refine K_exit ?_
                          refine K_te ?_
                          refine K_te ?_
                          refine K_be ?_
                          refine K_tn ?_
                          refine K_seq ?_
                          refine R_region ?_
                          refine r_move rfl rfl rfl ?_
                          refine r_move rfl rfl rfl ?_
                          refine r_assign rfl rfl rfl ?_
                          refine r_assign rfl rfl rfl ?_
                          refine r_assign rfl rfl rfl ?_
                          refine R_nil ?_
                          refine K_tn ?_
                          refine K_ret ?_
                          refine K_done (H' := []) rfl rfl (.s (.tmp rfl) (.s (.tmp rfl) (.s (.tmp rfl) .z))) (by repeat (first | exact .z | apply Rems.s Rem.z | apply Rems.s (Rem.s Rem.z) | apply Rems.s (Rem.s (Rem.s Rem.z)) | apply Rems.s (Rem.s (Rem.s (Rem.s Rem.z))) | apply Rems.s (Rem.s (Rem.s (Rem.s (Rem.s Rem.z)))) | apply Rems.s (Rem.s (Rem.s (Rem.s (Rem.s (Rem.s Rem.z))))) | apply Rems.s (Rem.s (Rem.s (Rem.s (Rem.s (Rem.s (Rem.s Rem.z)))))) | apply Rems.s (Rem.s (Rem.s (Rem.s (Rem.s (Rem.s (Rem.s (Rem.s Rem.z))))))) | apply Rems.s (Rem.s (Rem.s (Rem.s (Rem.s (Rem.s (Rem.s (Rem.s (Rem.s Rem.z)))))))) | apply Rems.s (Rem.s (Rem.s (Rem.s (Rem.s (Rem.s (Rem.s (Rem.s (Rem.s (Rem.s Rem.z))))))))))) ?_
                          refine ⟨?_, rfl⟩
                          first | (rw [bc_no hno]; unfold bcCode; simp_all [packV]; done; done) | (rw [bc_no hno]; unfold bcCode; simp_all [packV]; omega; done) | (rw [bc_no hno]; unfold bcCode; simp_all [packV]; (intro hh; omega); done)
              · first
                | (exfalso; first | omega | (unfold bcCode at hno; simp_all; done) | (unfold bcCode at hno; split at hno <;> simp_all <;> omega))
                |
                  refine r_pick_t rfl rfl rfl rfl ?_
                  refine R_nil ?_
                  refine K_tn ?_
                  refine K_cond_f rfl ?_
                  refine K_skip ?_
                  refine K_tn ?_
                  refine K_seq ?_
                  refine K_seq ?_
                  refine R_region ?_
                  refine r_move rfl rfl rfl ?_
                  refine s_neq rfl rfl rfl rfl (fun h49 => ?_) (fun h49 => ?_)
                  · first
                    | (exfalso; first | omega | (unfold bcCode at hno; simp_all; done) | (unfold bcCode at hno; split at hno <;> simp_all <;> omega))
                    |
                      refine R_nil ?_
                      refine K_tn ?_
                      refine K_cond_t rfl ?_
                      refine K_seq ?_
                      refine R_region ?_
                      refine r_move rfl rfl rfl ?_
                      refine r_assign rfl rfl rfl ?_
                      refine r_assign rfl rfl rfl ?_
                      refine r_assign rfl rfl rfl ?_
                      refine R_nil ?_
                      refine K_tn ?_
                      refine K_ret ?_
                      refine K_tr ?_
                      refine K_done (H' := []) rfl rfl (.s (.tmp rfl) (.s (.tmp rfl) (.s (.tmp rfl) .z))) (by repeat (first | exact .z | apply Rems.s Rem.z | apply Rems.s (Rem.s Rem.z) | apply Rems.s (Rem.s (Rem.s Rem.z)) | apply Rems.s (Rem.s (Rem.s (Rem.s Rem.z))) | apply Rems.s (Rem.s (Rem.s (Rem.s (Rem.s Rem.z)))) | apply Rems.s (Rem.s (Rem.s (Rem.s (Rem.s (Rem.s Rem.z))))) | apply Rems.s (Rem.s (Rem.s (Rem.s (Rem.s (Rem.s (Rem.s Rem.z)))))) | apply Rems.s (Rem.s (Rem.s (Rem.s (Rem.s (Rem.s (Rem.s (Rem.s Rem.z))))))) | apply Rems.s (Rem.s (Rem.s (Rem.s (Rem.s (Rem.s (Rem.s (Rem.s (Rem.s Rem.z)))))))) | apply Rems.s (Rem.s (Rem.s (Rem.s (Rem.s (Rem.s (Rem.s (Rem.s (Rem.s (Rem.s Rem.z))))))))))) ?_
                      refine ⟨?_, rfl⟩
                      first | (rw [bc_no hno]; unfold bcCode; simp_all [packV]; done; done) | (rw [bc_no hno]; unfold bcCode; simp_all [packV]; omega; done) | (rw [bc_no hno]; unfold bcCode; simp_all [packV]; (intro hh; omega); done)
                  · first
                    | (exfalso; first | omega | (unfold bcCode at hno; simp_all; done) | (unfold bcCode at hno; split at hno <;> simp_all <;> omega))
                    |
                      refine R_nil ?_
                      refine K_tn ?_
                      refine K_cond_f rfl ?_
                      refine K_skip ?_
                      refine K_tn ?_
                      refine K_seq ?_
                      refine R_region ?_
                      refine r_assign rfl rfl rfl ?_
                      refine R_nil ?_
                      refine K_tn ?_
                      refine K_seq ?_
                      refine R_region ?_
                      refine r_assign rfl rfl rfl ?_
                      refine R_nil ?_
                      refine K_tn ?_
                      refine K_seq ?_
                      refine K_seq ?_
                      refine R_region ?_
                      refine r_assign rfl rfl rfl ?_
                      refine R_nil ?_
                      refine K_tn ?_
                      refine K_block ?_
                      refine K_loop (fun (k : Nat) => k ≤ len) (fun k => [(1, .float .f32 g), (3, .slice (some ⟨b, 0, none⟩) len cap), (4, .float .f32 lo), (5, .float .f32 hi), (6, .pointer (some ⟨b6, 0, none⟩)), (8, .pointer (some ⟨b8, 0, none⟩)), (17, .int .i64 (bestB (fineC n rs g m fs lo hi es) k).1), (18, .int .i64 (bestB (fineC n rs g m fs lo hi es) k).2), (19, .int .i64 (k : Int))]) (fun _ => [(b6, .cells (.int .i8 (n : Int) :: fl .f32 rs).toArray 28 (0, 0)), (b8, .cells (.int .i8 (m : Int) :: fl .f32 fs).toArray 54 (0, 0))]) (fun k => len - k) 0 (by omega) (by repeat (first | exact trivial | refine ⟨rfl, ?_⟩)) (by repeat (first | exact .z | apply Rems.s Rem.z | apply Rems.s (Rem.s Rem.z) | apply Rems.s (Rem.s (Rem.s Rem.z)) | apply Rems.s (Rem.s (Rem.s (Rem.s Rem.z))) | apply Rems.s (Rem.s (Rem.s (Rem.s (Rem.s Rem.z)))) | apply Rems.s (Rem.s (Rem.s (Rem.s (Rem.s (Rem.s Rem.z))))) | apply Rems.s (Rem.s (Rem.s (Rem.s (Rem.s (Rem.s (Rem.s Rem.z)))))) | apply Rems.s (Rem.s (Rem.s (Rem.s (Rem.s (Rem.s (Rem.s (Rem.s Rem.z))))))) | apply Rems.s (Rem.s (Rem.s (Rem.s (Rem.s (Rem.s (Rem.s (Rem.s (Rem.s Rem.z)))))))) | apply Rems.s (Rem.s (Rem.s (Rem.s (Rem.s (Rem.s (Rem.s (Rem.s (Rem.s (Rem.s Rem.z))))))))))) (fun k hp => ?_)
                      refine K_seq ?_
                      refine K_seq ?_
                      refine R_region ?_
                      refine r_move rfl rfl rfl ?_
                      refine r_move rfl rfl rfl ?_
                      refine r_lenS sl_47 rfl rfl rfl ?_
                      refine s_lss rfl rfl rfl rfl (fun h54 => ?_) (fun h54 => ?_)
                      · first
                        | (exfalso; first | omega | (unfold bcCode at hno; simp_all; done) | (unfold bcCode at hno; split at hno <;> simp_all <;> omega))
                        |
                          refine R_nil ?_
                          refine K_tn ?_
                          refine K_cond_t rfl ?_
                          refine K_skip ?_
                          refine K_tn ?_
                          refine K_seq ?_
                          refine K_block ?_
                          refine K_seq ?_
                          refine R_region ?_
                          refine r_move rfl rfl rfl ?_
                          refine r_move rfl rfl rfl ?_
                          refine r_indexS sl_47 sz_23 rfl rfl rfl rfl (by omega) ?_
                          refine r_load ag_23 rfl rfl rfl (by first | exact .h .z | exact .h (.s .z) | exact .h (.s (.s .z)) | exact .h (.s (.s (.s .z))) | exact .h (.s (.s (.s (.s .z)))) | exact .h (.s (.s (.s (.s (.s .z))))) | exact .h (.s (.s (.s (.s (.s (.s .z)))))) | exact .h (.s (.s (.s (.s (.s (.s (.s .z))))))) | exact .h (.s (.s (.s (.s (.s (.s (.s (.s .z)))))))) | exact .x .z | exact .x (.s .z) | exact .x (.s (.s .z)) | exact .x (.s (.s (.s .z))) | exact .x (.s (.s (.s (.s .z)))) | exact .x (.s (.s (.s (.s (.s .z))))) | exact .x (.s (.s (.s (.s (.s (.s .z))))))) (by first | rfl | exact gC (by omega) | exact takeC (by omega) | exact takeC0 (by omega)) ?_
                          refine r_move rfl rfl rfl ?_
                          refine r_move rfl rfl rfl ?_
                          refine r_move rfl rfl rfl ?_
                          refine r_callV cb_85 rfl rfl rfl rfl rfl (absurd rfl rfl) (by repeat (first | exact .z | refine .s (.h .z) ?_ | refine .s (.h (.s .z)) ?_ | refine .s (.h (.s (.s .z))) ?_ | refine .s (.h (.s (.s (.s .z)))) ?_ | refine .s (.h (.s (.s (.s (.s .z))))) ?_ | refine .s (.h (.s (.s (.s (.s (.s .z)))))) ?_ | refine .s (.h (.s (.s (.s (.s (.s (.s .z))))))) ?_ | refine .s (.h (.s (.s (.s (.s (.s (.s (.s .z)))))))) ?_ | refine .s (.h (.s (.s (.s (.s (.s (.s (.s (.s .z))))))))) ?_ | refine .s (.x .z) ?_ | refine .s (.x (.s .z)) ?_ | refine .s (.x (.s (.s .z))) ?_ | refine .s (.x (.s (.s (.s .z)))) ?_ | refine .s (.x (.s (.s (.s (.s .z))))) ?_ | refine .s (.x (.s (.s (.s (.s (.s .z)))))) ?_ | refine .s (.x (.s (.s (.s (.s (.s (.s .z))))))) ?_)) ?_
                          refine r_move rfl rfl rfl ?_
                          refine r_extract rfl rfl rfl rfl ?_
                          refine r_extract rfl rfl rfl rfl ?_
                          refine r_assign rfl rfl rfl ?_
                          refine r_assign rfl rfl rfl ?_
                          refine R_nil ?_
                          refine K_tn ?_
                          refine K_seq ?_
                          refine R_region ?_
                          refine r_fieldAddr fd_54_0 rfl rfl rfl ?_
                          refine r_load ag_22 rfl rfl rfl (by first | exact .h .z | exact .h (.s .z) | exact .h (.s (.s .z)) | exact .h (.s (.s (.s .z))) | exact .h (.s (.s (.s (.s .z)))) | exact .h (.s (.s (.s (.s (.s .z))))) | exact .h (.s (.s (.s (.s (.s (.s .z)))))) | exact .h (.s (.s (.s (.s (.s (.s (.s .z))))))) | exact .h (.s (.s (.s (.s (.s (.s (.s (.s .z)))))))) | exact .x .z | exact .x (.s .z) | exact .x (.s (.s .z)) | exact .x (.s (.s (.s .z))) | exact .x (.s (.s (.s (.s .z)))) | exact .x (.s (.s (.s (.s (.s .z))))) | exact .x (.s (.s (.s (.s (.s (.s .z))))))) (by first | rfl | exact gC (by omega) | exact takeC (by omega) | exact takeC0 (by omega)) ?_
                          refine r_convI ⟨_, un_22⟩ un_2 rfl rfl rfl (i64K (by omega) (by omega)) ?_
                          refine r_move rfl rfl rfl ?_
                          refine r_lenS sl_60 rfl rfl rfl ?_
                          first | refine r_subN rfl rfl rfl rfl (i64K (by omega) (by omega)) (by omega) ?_ | refine r_sub rfl rfl rfl rfl (i64K (by omega) (by omega)) ?_
                          refine r_move rfl rfl rfl ?_
                          refine r_lenS sl_60 rfl rfl rfl ?_
                          first | refine r_subN rfl rfl rfl rfl (i64K (by omega) (by omega)) (by omega) ?_ | refine r_sub rfl rfl rfl rfl (i64K (by omega) (by omega)) ?_
                          refine r_assign rfl rfl rfl ?_
                          refine R_nil ?_
                          refine K_tn ?_
                          refine K_seq ?_
                          refine R_region ?_
                          refine r_move rfl rfl rfl ?_
                          refine r_move rfl rfl rfl ?_
                          refine s_gtr rfl rfl rfl rfl (fun h79 => ?_) (fun h79 => ?_)
                          · first
                            | (exfalso; first | omega | (unfold bcCode at hno; simp_all; done) | (unfold bcCode at hno; split at hno <;> simp_all <;> omega))
                            |
                              refine R_nil ?_
                              refine K_tn ?_
                              refine K_cond_t rfl ?_
                              refine K_seq ?_
                              refine R_region ?_
                              refine r_move rfl rfl rfl ?_
                              refine r_assign rfl rfl rfl ?_
                              refine R_nil ?_
                              refine K_tn ?_
                              refine R_region ?_
                              refine r_move rfl rfl rfl ?_
                              refine r_assign rfl rfl rfl ?_
                              refine R_nil ?_
                              refine K_bn ?_
                              refine K_tn ?_
                              refine R_region ?_
                              refine r_move rfl rfl rfl ?_
                              first | refine r_addN rfl rfl rfl rfl (i64K (by omega) (by omega)) ?_ | refine r_add rfl rfl rfl rfl (i64K (by omega) (by omega)) ?_
                              refine r_assign rfl rfl rfl ?_
                              refine R_nil ?_
                              refine K_tn ?_
                              exact K_again (k + 1) (by omega) (by omega) (by repeat (first | exact trivial | refine ⟨rfl, ?_⟩ | refine ⟨congrArg (fun t : Int × Int => some (Value.int .i64 t.1)) (bestB_t (sc := (fineC n rs g m fs lo hi es)) h79).symm, ?_⟩ | refine ⟨congrArg (fun t : Int × Int => some (Value.int .i64 t.1)) (bestB_f (sc := (fineC n rs g m fs lo hi es)) h79).symm, ?_⟩ | refine ⟨congrArg (fun t : Int × Int => some (Value.int .i64 t.2)) (bestB_t (sc := (fineC n rs g m fs lo hi es)) h79).symm, ?_⟩ | refine ⟨congrArg (fun t : Int × Int => some (Value.int .i64 t.2)) (bestB_f (sc := (fineC n rs g m fs lo hi es)) h79).symm, ?_⟩)) (by repeat (first | exact .z | apply Rems.s Rem.z | apply Rems.s (Rem.s Rem.z) | apply Rems.s (Rem.s (Rem.s Rem.z)) | apply Rems.s (Rem.s (Rem.s (Rem.s Rem.z))) | apply Rems.s (Rem.s (Rem.s (Rem.s (Rem.s Rem.z)))) | apply Rems.s (Rem.s (Rem.s (Rem.s (Rem.s (Rem.s Rem.z))))) | apply Rems.s (Rem.s (Rem.s (Rem.s (Rem.s (Rem.s (Rem.s Rem.z)))))) | apply Rems.s (Rem.s (Rem.s (Rem.s (Rem.s (Rem.s (Rem.s (Rem.s Rem.z))))))) | apply Rems.s (Rem.s (Rem.s (Rem.s (Rem.s (Rem.s (Rem.s (Rem.s (Rem.s Rem.z)))))))) | apply Rems.s (Rem.s (Rem.s (Rem.s (Rem.s (Rem.s (Rem.s (Rem.s (Rem.s (Rem.s Rem.z)))))))))))
                          · first
                            | (exfalso; first | omega | (unfold bcCode at hno; simp_all; done) | (unfold bcCode at hno; split at hno <;> simp_all <;> omega))
                            |
                              refine R_nil ?_
                              refine K_tn ?_
                              refine K_cond_f rfl ?_
                              refine K_skip ?_
                              refine K_bn ?_
                              refine K_tn ?_
                              refine R_region ?_
                              refine r_move rfl rfl rfl ?_
                              first | refine r_addN rfl rfl rfl rfl (i64K (by omega) (by omega)) ?_ | refine r_add rfl rfl rfl rfl (i64K (by omega) (by omega)) ?_
                              refine r_assign rfl rfl rfl ?_
                              refine R_nil ?_
                              refine K_tn ?_
                              exact K_again (k + 1) (by omega) (by omega) (by repeat (first | exact trivial | refine ⟨rfl, ?_⟩ | refine ⟨congrArg (fun t : Int × Int => some (Value.int .i64 t.1)) (bestB_t (sc := (fineC n rs g m fs lo hi es)) h79).symm, ?_⟩ | refine ⟨congrArg (fun t : Int × Int => some (Value.int .i64 t.1)) (bestB_f (sc := (fineC n rs g m fs lo hi es)) h79).symm, ?_⟩ | refine ⟨congrArg (fun t : Int × Int => some (Value.int .i64 t.2)) (bestB_t (sc := (fineC n rs g m fs lo hi es)) h79).symm, ?_⟩ | refine ⟨congrArg (fun t : Int × Int => some (Value.int .i64 t.2)) (bestB_f (sc := (fineC n rs g m fs lo hi es)) h79).symm, ?_⟩)) (by repeat (first | exact .z | apply Rems.s Rem.z | apply Rems.s (Rem.s Rem.z) | apply Rems.s (Rem.s (Rem.s Rem.z)) | apply Rems.s (Rem.s (Rem.s (Rem.s Rem.z))) | apply Rems.s (Rem.s (Rem.s (Rem.s (Rem.s Rem.z)))) | apply Rems.s (Rem.s (Rem.s (Rem.s (Rem.s (Rem.s Rem.z))))) | apply Rems.s (Rem.s (Rem.s (Rem.s (Rem.s (Rem.s (Rem.s Rem.z)))))) | apply Rems.s (Rem.s (Rem.s (Rem.s (Rem.s (Rem.s (Rem.s (Rem.s Rem.z))))))) | apply Rems.s (Rem.s (Rem.s (Rem.s (Rem.s (Rem.s (Rem.s (Rem.s (Rem.s Rem.z)))))))) | apply Rems.s (Rem.s (Rem.s (Rem.s (Rem.s (Rem.s (Rem.s (Rem.s (Rem.s (Rem.s Rem.z)))))))))))
                      · first
                        | (exfalso; first | omega | (unfold bcCode at hno; simp_all; done) | (unfold bcCode at hno; split at hno <;> simp_all <;> omega))
                        |
                          refine R_nil ?_
                          refine K_tn ?_
                          refine K_cond_f rfl ?_
                          refine K_exit ?_
                          refine K_te ?_
                          refine K_te ?_
                          refine K_be ?_
                          refine K_tn ?_
                          refine K_seq ?_
                          refine R_region ?_
                          refine r_move rfl rfl rfl ?_
                          refine r_move rfl rfl rfl ?_
                          refine r_assign rfl rfl rfl ?_
                          refine r_assign rfl rfl rfl ?_
                          refine r_assign rfl rfl rfl ?_
                          refine R_nil ?_
                          refine K_tn ?_
                          refine K_ret ?_
                          refine K_done (H' := []) rfl rfl (.s (.tmp rfl) (.s (.tmp rfl) (.s (.tmp rfl) .z))) (by repeat (first | exact .z | apply Rems.s Rem.z | apply Rems.s (Rem.s Rem.z) | apply Rems.s (Rem.s (Rem.s Rem.z)) | apply Rems.s (Rem.s (Rem.s (Rem.s Rem.z))) | apply Rems.s (Rem.s (Rem.s (Rem.s (Rem.s Rem.z)))) | apply Rems.s (Rem.s (Rem.s (Rem.s (Rem.s (Rem.s Rem.z))))) | apply Rems.s (Rem.s (Rem.s (Rem.s (Rem.s (Rem.s (Rem.s Rem.z)))))) | apply Rems.s (Rem.s (Rem.s (Rem.s (Rem.s (Rem.s (Rem.s (Rem.s Rem.z))))))) | apply Rems.s (Rem.s (Rem.s (Rem.s (Rem.s (Rem.s (Rem.s (Rem.s (Rem.s Rem.z)))))))) | apply Rems.s (Rem.s (Rem.s (Rem.s (Rem.s (Rem.s (Rem.s (Rem.s (Rem.s (Rem.s Rem.z))))))))))) ?_
                          refine ⟨?_, rfl⟩
                          first | (rw [bc_no hno]; unfold bcCode; simp_all [packV]; done; done) | (rw [bc_no hno]; unfold bcCode; simp_all [packV]; omega; done) | (rw [bc_no hno]; unfold bcCode; simp_all [packV]; (intro hh; omega); done)
          · first
            | (exfalso; first | omega | (unfold bcCode at hno; simp_all; done) | (unfold bcCode at hno; split at hno <;> simp_all <;> omega))
            |
              refine r_move rfl rfl rfl ?_
              refine r_skip rfl rfl ?_
              refine r_skip rfl rfl ?_
              refine r_skip rfl rfl ?_
              refine r_pick_f rfl rfl rfl rfl ?_
              refine R_nil ?_
              refine K_tn ?_
              refine K_cond_f rfl ?_
              refine K_skip ?_
              refine K_tn ?_
              refine K_seq ?_
              refine K_seq ?_
              refine R_region ?_
              refine r_move rfl rfl rfl ?_
              refine s_neq rfl rfl rfl rfl (fun h49 => ?_) (fun h49 => ?_)
              · first
                | (exfalso; first | omega | (unfold bcCode at hno; simp_all; done) | (unfold bcCode at hno; split at hno <;> simp_all <;> omega))
                |
                  refine R_nil ?_
                  refine K_tn ?_
                  refine K_cond_t rfl ?_
                  refine K_seq ?_
                  refine R_region ?_
                  refine r_move rfl rfl rfl ?_
                  refine r_assign rfl rfl rfl ?_
                  refine r_assign rfl rfl rfl ?_
                  refine r_assign rfl rfl rfl ?_
                  refine R_nil ?_
                  refine K_tn ?_
                  refine K_ret ?_
                  refine K_tr ?_
                  refine K_done (H' := []) rfl rfl (.s (.tmp rfl) (.s (.tmp rfl) (.s (.tmp rfl) .z))) (by repeat (first | exact .z | apply Rems.s Rem.z | apply Rems.s (Rem.s Rem.z) | apply Rems.s (Rem.s (Rem.s Rem.z)) | apply Rems.s (Rem.s (Rem.s (Rem.s Rem.z))) | apply Rems.s (Rem.s (Rem.s (Rem.s (Rem.s Rem.z)))) | apply Rems.s (Rem.s (Rem.s (Rem.s (Rem.s (Rem.s Rem.z))))) | apply Rems.s (Rem.s (Rem.s (Rem.s (Rem.s (Rem.s (Rem.s Rem.z)))))) | apply Rems.s (Rem.s (Rem.s (Rem.s (Rem.s (Rem.s (Rem.s (Rem.s Rem.z))))))) | apply Rems.s (Rem.s (Rem.s (Rem.s (Rem.s (Rem.s (Rem.s (Rem.s (Rem.s Rem.z)))))))) | apply Rems.s (Rem.s (Rem.s (Rem.s (Rem.s (Rem.s (Rem.s (Rem.s (Rem.s (Rem.s Rem.z))))))))))) ?_
                  refine ⟨?_, rfl⟩
                  first | (rw [bc_no hno]; unfold bcCode; simp_all [packV]; done; done) | (rw [bc_no hno]; unfold bcCode; simp_all [packV]; omega; done) | (rw [bc_no hno]; unfold bcCode; simp_all [packV]; (intro hh; omega); done)
              · first
                | (exfalso; first | omega | (unfold bcCode at hno; simp_all; done) | (unfold bcCode at hno; split at hno <;> simp_all <;> omega))
                |
                  refine R_nil ?_
                  refine K_tn ?_
                  refine K_cond_f rfl ?_
                  refine K_skip ?_
                  refine K_tn ?_
                  refine K_seq ?_
                  refine R_region ?_
                  refine r_assign rfl rfl rfl ?_
                  refine R_nil ?_
                  refine K_tn ?_
                  refine K_seq ?_
                  refine R_region ?_
                  refine r_assign rfl rfl rfl ?_
                  refine R_nil ?_
                  refine K_tn ?_
                  refine K_seq ?_
                  refine K_seq ?_
                  refine R_region ?_
                  refine r_assign rfl rfl rfl ?_
                  refine R_nil ?_
                  refine K_tn ?_
                  refine K_block ?_
                  refine K_loop (fun (k : Nat) => k ≤ len) (fun k => [(1, .float .f32 g), (3, .slice (some ⟨b, 0, none⟩) len cap), (4, .float .f32 lo), (5, .float .f32 hi), (6, .pointer (some ⟨b6, 0, none⟩)), (8, .pointer (some ⟨b8, 0, none⟩)), (17, .int .i64 (bestB (fineC n rs g m fs lo hi es) k).1), (18, .int .i64 (bestB (fineC n rs g m fs lo hi es) k).2), (19, .int .i64 (k : Int))]) (fun _ => [(b6, .cells (.int .i8 (n : Int) :: fl .f32 rs).toArray 28 (0, 0)), (b8, .cells (.int .i8 (m : Int) :: fl .f32 fs).toArray 54 (0, 0))]) (fun k => len - k) 0 (by omega) (by repeat (first | exact trivial | refine ⟨rfl, ?_⟩)) (by repeat (first | exact .z | apply Rems.s Rem.z | apply Rems.s (Rem.s Rem.z) | apply Rems.s (Rem.s (Rem.s Rem.z)) | apply Rems.s (Rem.s (Rem.s (Rem.s Rem.z))) | apply Rems.s (Rem.s (Rem.s (Rem.s (Rem.s Rem.z)))) | apply Rems.s (Rem.s (Rem.s (Rem.s (Rem.s (Rem.s Rem.z))))) | apply Rems.s (Rem.s (Rem.s (Rem.s (Rem.s (Rem.s (Rem.s Rem.z)))))) | apply Rems.s (Rem.s (Rem.s (Rem.s (Rem.s (Rem.s (Rem.s (Rem.s Rem.z))))))) | apply Rems.s (Rem.s (Rem.s (Rem.s (Rem.s (Rem.s (Rem.s (Rem.s (Rem.s Rem.z)))))))) | apply Rems.s (Rem.s (Rem.s (Rem.s (Rem.s (Rem.s (Rem.s (Rem.s (Rem.s (Rem.s Rem.z))))))))))) (fun k hp => ?_)
                  refine K_seq ?_
                  refine K_seq ?_
                  refine R_region ?_
                  refine r_move rfl rfl rfl ?_
                  refine r_move rfl rfl rfl ?_
                  refine r_lenS sl_47 rfl rfl rfl ?_
                  refine s_lss rfl rfl rfl rfl (fun h54 => ?_) (fun h54 => ?_)
                  · first
                    | (exfalso; first | omega | (unfold bcCode at hno; simp_all; done) | (unfold bcCode at hno; split at hno <;> simp_all <;> omega))
                    |
                      refine R_nil ?_
                      refine K_tn ?_
                      refine K_cond_t rfl ?_
                      refine K_skip ?_
                      refine K_tn ?_
                      refine K_seq ?_
                      refine K_block ?_
                      refine K_seq ?_
                      refine R_region ?_
                      refine r_move rfl rfl rfl ?_
                      refine r_move rfl rfl rfl ?_
                      refine r_indexS sl_47 sz_23 rfl rfl rfl rfl (by omega) ?_
                      refine r_load ag_23 rfl rfl rfl (by first | exact .h .z | exact .h (.s .z) | exact .h (.s (.s .z)) | exact .h (.s (.s (.s .z))) | exact .h (.s (.s (.s (.s .z)))) | exact .h (.s (.s (.s (.s (.s .z))))) | exact .h (.s (.s (.s (.s (.s (.s .z)))))) | exact .h (.s (.s (.s (.s (.s (.s (.s .z))))))) | exact .h (.s (.s (.s (.s (.s (.s (.s (.s .z)))))))) | exact .x .z | exact .x (.s .z) | exact .x (.s (.s .z)) | exact .x (.s (.s (.s .z))) | exact .x (.s (.s (.s (.s .z)))) | exact .x (.s (.s (.s (.s (.s .z))))) | exact .x (.s (.s (.s (.s (.s (.s .z))))))) (by first | rfl | exact gC (by omega) | exact takeC (by omega) | exact takeC0 (by omega)) ?_
                      refine r_move rfl rfl rfl ?_
                      refine r_move rfl rfl rfl ?_
                      refine r_move rfl rfl rfl ?_
                      refine r_callV cb_85 rfl rfl rfl rfl rfl (absurd rfl rfl) (by repeat (first | exact .z | refine .s (.h .z) ?_ | refine .s (.h (.s .z)) ?_ | refine .s (.h (.s (.s .z))) ?_ | refine .s (.h (.s (.s (.s .z)))) ?_ | refine .s (.h (.s (.s (.s (.s .z))))) ?_ | refine .s (.h (.s (.s (.s (.s (.s .z)))))) ?_ | refine .s (.h (.s (.s (.s (.s (.s (.s .z))))))) ?_ | refine .s (.h (.s (.s (.s (.s (.s (.s (.s .z)))))))) ?_ | refine .s (.h (.s (.s (.s (.s (.s (.s (.s (.s .z))))))))) ?_ | refine .s (.x .z) ?_ | refine .s (.x (.s .z)) ?_ | refine .s (.x (.s (.s .z))) ?_ | refine .s (.x (.s (.s (.s .z)))) ?_ | refine .s (.x (.s (.s (.s (.s .z))))) ?_ | refine .s (.x (.s (.s (.s (.s (.s .z)))))) ?_ | refine .s (.x (.s (.s (.s (.s (.s (.s .z))))))) ?_)) ?_
                      refine r_move rfl rfl rfl ?_
                      refine r_extract rfl rfl rfl rfl ?_
                      refine r_extract rfl rfl rfl rfl ?_
                      refine r_assign rfl rfl rfl ?_
                      refine r_assign rfl rfl rfl ?_
                      refine R_nil ?_
                      refine K_tn ?_
                      refine K_seq ?_
                      refine R_region ?_
                      refine r_fieldAddr fd_54_0 rfl rfl rfl ?_
                      refine r_load ag_22 rfl rfl rfl (by first | exact .h .z | exact .h (.s .z) | exact .h (.s (.s .z)) | exact .h (.s (.s (.s .z))) | exact .h (.s (.s (.s (.s .z)))) | exact .h (.s (.s (.s (.s (.s .z))))) | exact .h (.s (.s (.s (.s (.s (.s .z)))))) | exact .h (.s (.s (.s (.s (.s (.s (.s .z))))))) | exact .h (.s (.s (.s (.s (.s (.s (.s (.s .z)))))))) | exact .x .z | exact .x (.s .z) | exact .x (.s (.s .z)) | exact .x (.s (.s (.s .z))) | exact .x (.s (.s (.s (.s .z)))) | exact .x (.s (.s (.s (.s (.s .z))))) | exact .x (.s (.s (.s (.s (.s (.s .z))))))) (by first | rfl | exact gC (by omega) | exact takeC (by omega) | exact takeC0 (by omega)) ?_
                      refine r_convI ⟨_, un_22⟩ un_2 rfl rfl rfl (i64K (by omega) (by omega)) ?_
                      refine r_move rfl rfl rfl ?_
                      refine r_lenS sl_60 rfl rfl rfl ?_
                      first | refine r_subN rfl rfl rfl rfl (i64K (by omega) (by omega)) (by omega) ?_ | refine r_sub rfl rfl rfl rfl (i64K (by omega) (by omega)) ?_
                      refine r_move rfl rfl rfl ?_
                      refine r_lenS sl_60 rfl rfl rfl ?_
                      first | refine r_subN rfl rfl rfl rfl (i64K (by omega) (by omega)) (by omega) ?_ | refine r_sub rfl rfl rfl rfl (i64K (by omega) (by omega)) ?_
                      refine r_assign rfl rfl rfl ?_
                      refine R_nil ?_
                      refine K_tn ?_
                      refine K_seq ?_
                      refine R_region ?_
                      refine r_move rfl rfl rfl ?_
                      refine r_move rfl rfl rfl ?_
                      refine s_gtr rfl rfl rfl rfl (fun h79 => ?_) (fun h79 => ?_)
                      · first
                        | (exfalso; first | omega | (unfold bcCode at hno; simp_all; done) | (unfold bcCode at hno; split at hno <;> simp_all <;> omega))
                        |
                          refine R_nil ?_
                          refine K_tn ?_
                          refine K_cond_t rfl ?_
                          refine K_seq ?_
                          refine R_region ?_
                          refine r_move rfl rfl rfl ?_
                          refine r_assign rfl rfl rfl ?_
                          refine R_nil ?_
                          refine K_tn ?_
                          refine R_region ?_
                          refine r_move rfl rfl rfl ?_
                          refine r_assign rfl rfl rfl ?_
                          refine R_nil ?_
                          refine K_bn ?_
                          refine K_tn ?_
                          refine R_region ?_
                          refine r_move rfl rfl rfl ?_
                          first | refine r_addN rfl rfl rfl rfl (i64K (by omega) (by omega)) ?_ | refine r_add rfl rfl rfl rfl (i64K (by omega) (by omega)) ?_
                          refine r_assign rfl rfl rfl ?_
                          refine R_nil ?_
                          refine K_tn ?_
                          exact K_again (k + 1) (by omega) (by omega) (by repeat (first | exact trivial | refine ⟨rfl, ?_⟩ | refine ⟨congrArg (fun t : Int × Int => some (Value.int .i64 t.1)) (bestB_t (sc := (fineC n rs g m fs lo hi es)) h79).symm, ?_⟩ | refine ⟨congrArg (fun t : Int × Int => some (Value.int .i64 t.1)) (bestB_f (sc := (fineC n rs g m fs lo hi es)) h79).symm, ?_⟩ | refine ⟨congrArg (fun t : Int × Int => some (Value.int .i64 t.2)) (bestB_t (sc := (fineC n rs g m fs lo hi es)) h79).symm, ?_⟩ | refine ⟨congrArg (fun t : Int × Int => some (Value.int .i64 t.2)) (bestB_f (sc := (fineC n rs g m fs lo hi es)) h79).symm, ?_⟩)) (by repeat (first | exact .z | apply Rems.s Rem.z | apply Rems.s (Rem.s Rem.z) | apply Rems.s (Rem.s (Rem.s Rem.z)) | apply Rems.s (Rem.s (Rem.s (Rem.s Rem.z))) | apply Rems.s (Rem.s (Rem.s (Rem.s (Rem.s Rem.z)))) | apply Rems.s (Rem.s (Rem.s (Rem.s (Rem.s (Rem.s Rem.z))))) | apply Rems.s (Rem.s (Rem.s (Rem.s (Rem.s (Rem.s (Rem.s Rem.z)))))) | apply Rems.s (Rem.s (Rem.s (Rem.s (Rem.s (Rem.s (Rem.s (Rem.s Rem.z))))))) | apply Rems.s (Rem.s (Rem.s (Rem.s (Rem.s (Rem.s (Rem.s (Rem.s (Rem.s Rem.z)))))))) | apply Rems.s (Rem.s (Rem.s (Rem.s (Rem.s (Rem.s (Rem.s (Rem.s (Rem.s (Rem.s Rem.z)))))))))))
                      · first
                        | (exfalso; first | omega | (unfold bcCode at hno; simp_all; done) | (unfold bcCode at hno; split at hno <;> simp_all <;> omega))
                        |
                          refine R_nil ?_
                          refine K_tn ?_
                          refine K_cond_f rfl ?_
                          refine K_skip ?_
                          refine K_bn ?_
                          refine K_tn ?_
                          refine R_region ?_
                          refine r_move rfl rfl rfl ?_
                          first | refine r_addN rfl rfl rfl rfl (i64K (by omega) (by omega)) ?_ | refine r_add rfl rfl rfl rfl (i64K (by omega) (by omega)) ?_
                          refine r_assign rfl rfl rfl ?_
                          refine R_nil ?_
                          refine K_tn ?_
                          exact K_again (k + 1) (by omega) (by omega) (by repeat (first | exact trivial | refine ⟨rfl, ?_⟩ | refine ⟨congrArg (fun t : Int × Int => some (Value.int .i64 t.1)) (bestB_t (sc := (fineC n rs g m fs lo hi es)) h79).symm, ?_⟩ | refine ⟨congrArg (fun t : Int × Int => some (Value.int .i64 t.1)) (bestB_f (sc := (fineC n rs g m fs lo hi es)) h79).symm, ?_⟩ | refine ⟨congrArg (fun t : Int × Int => some (Value.int .i64 t.2)) (bestB_t (sc := (fineC n rs g m fs lo hi es)) h79).symm, ?_⟩ | refine ⟨congrArg (fun t : Int × Int => some (Value.int .i64 t.2)) (bestB_f (sc := (fineC n rs g m fs lo hi es)) h79).symm, ?_⟩)) (by repeat (first | exact .z | apply Rems.s Rem.z | apply Rems.s (Rem.s Rem.z) | apply Rems.s (Rem.s (Rem.s Rem.z)) | apply Rems.s (Rem.s (Rem.s (Rem.s Rem.z))) | apply Rems.s (Rem.s (Rem.s (Rem.s (Rem.s Rem.z)))) | apply Rems.s (Rem.s (Rem.s (Rem.s (Rem.s (Rem.s Rem.z))))) | apply Rems.s (Rem.s (Rem.s (Rem.s (Rem.s (Rem.s (Rem.s Rem.z)))))) | apply Rems.s (Rem.s (Rem.s (Rem.s (Rem.s (Rem.s (Rem.s (Rem.s Rem.z))))))) | apply Rems.s (Rem.s (Rem.s (Rem.s (Rem.s (Rem.s (Rem.s (Rem.s (Rem.s Rem.z)))))))) | apply Rems.s (Rem.s (Rem.s (Rem.s (Rem.s (Rem.s (Rem.s (Rem.s (Rem.s (Rem.s Rem.z)))))))))))
                  · first
                    | (exfalso; first | omega | (unfold bcCode at hno; simp_all; done) | (unfold bcCode at hno; split at hno <;> simp_all <;> omega))
                    |
                      refine R_nil ?_
                      refine K_tn ?_
                      refine K_cond_f rfl ?_
                      refine K_exit ?_
                      refine K_te ?_
                      refine K_te ?_
                      refine K_be ?_
                      refine K_tn ?_
                      refine K_seq ?_
                      refine R_region ?_
                      refine r_move rfl rfl rfl ?_
                      refine r_move rfl rfl rfl ?_
                      refine r_assign rfl rfl rfl ?_
                      refine r_assign rfl rfl rfl ?_
                      refine r_assign rfl rfl rfl ?_
                      refine R_nil ?_
                      refine K_tn ?_
                      refine K_ret ?_
                      refine K_done (H' := []) rfl rfl (.s (.tmp rfl) (.s (.tmp rfl) (.s (.tmp rfl) .z))) (by repeat (first | exact .z | apply Rems.s Rem.z | apply Rems.s (Rem.s Rem.z) | apply Rems.s (Rem.s (Rem.s Rem.z)) | apply Rems.s (Rem.s (Rem.s (Rem.s Rem.z))) | apply Rems.s (Rem.s (Rem.s (Rem.s (Rem.s Rem.z)))) | apply Rems.s (Rem.s (Rem.s (Rem.s (Rem.s (Rem.s Rem.z))))) | apply Rems.s (Rem.s (Rem.s (Rem.s (Rem.s (Rem.s (Rem.s Rem.z)))))) | apply Rems.s (Rem.s (Rem.s (Rem.s (Rem.s (Rem.s (Rem.s (Rem.s Rem.z))))))) | apply Rems.s (Rem.s (Rem.s (Rem.s (Rem.s (Rem.s (Rem.s (Rem.s (Rem.s Rem.z)))))))) | apply Rems.s (Rem.s (Rem.s (Rem.s (Rem.s (Rem.s (Rem.s (Rem.s (Rem.s (Rem.s Rem.z))))))))))) ?_
                      refine ⟨?_, rfl⟩
                      first | (rw [bc_no hno]; unfold bcCode; simp_all [packV]; done; done) | (rw [bc_no hno]; unfold bcCode; simp_all [packV]; omega; done) | (rw [bc_no hno]; unfold bcCode; simp_all [packV]; (intro hh; omega); done)
  · first
    | (exfalso; first | omega | (unfold bcCode at hno; simp_all; done) | (unfold bcCode at hno; split at hno <;> simp_all <;> omega))
    |
      refine r_move rfl rfl rfl ?_
      refine r_skip rfl rfl ?_
      refine r_skip rfl rfl ?_
      refine r_skip rfl rfl ?_
      refine r_pick_f rfl rfl rfl rfl ?_
      refine R_nil ?_
      refine K_tn ?_
      refine K_cond_f rfl ?_
      refine K_skip ?_
      refine K_tn ?_
      refine K_seq ?_
      refine K_seq ?_
      refine R_region ?_
      refine r_move rfl rfl rfl ?_
      refine s_eql rfl rfl rfl rfl (fun h42 => ?_) (fun h42 => ?_)
      · first
        | (exfalso; first | omega | (unfold bcCode at hno; simp_all; done) | (unfold bcCode at hno; split at hno <;> simp_all <;> omega))
        |
          refine r_move rfl rfl rfl ?_
          refine r_move rfl rfl rfl ?_
          refine r_lenS sl_47 rfl rfl rfl ?_
          refine s_eql rfl rfl rfl rfl (fun h46 => ?_) (fun h46 => ?_)
          · first
            | (exfalso; first | omega | (unfold bcCode at hno; simp_all; done) | (unfold bcCode at hno; split at hno <;> simp_all <;> omega))
            |
              refine r_pick_t rfl rfl rfl rfl ?_
              refine R_nil ?_
              refine K_tn ?_
              refine K_cond_t rfl ?_
              refine R_region ?_
              refine r_assign rfl rfl rfl ?_
              refine R_nil ?_
              refine K_tn ?_
              refine K_seq ?_
              refine K_seq ?_
              refine R_region ?_
              refine r_move rfl rfl rfl ?_
              refine s_neq rfl rfl rfl rfl (fun h49 => ?_) (fun h49 => ?_)
              · first
                | (exfalso; first | omega | (unfold bcCode at hno; simp_all; done) | (unfold bcCode at hno; split at hno <;> simp_all <;> omega))
                |
                  refine R_nil ?_
                  refine K_tn ?_
                  refine K_cond_t rfl ?_
                  refine K_seq ?_
                  refine R_region ?_
                  refine r_move rfl rfl rfl ?_
                  refine r_assign rfl rfl rfl ?_
                  refine r_assign rfl rfl rfl ?_
                  refine r_assign rfl rfl rfl ?_
                  refine R_nil ?_
                  refine K_tn ?_
                  refine K_ret ?_
                  refine K_tr ?_
                  refine K_done (H' := []) rfl rfl (.s (.tmp rfl) (.s (.tmp rfl) (.s (.tmp rfl) .z))) (by repeat (first | exact .z | apply Rems.s Rem.z | apply Rems.s (Rem.s Rem.z) | apply Rems.s (Rem.s (Rem.s Rem.z)) | apply Rems.s (Rem.s (Rem.s (Rem.s Rem.z))) | apply Rems.s (Rem.s (Rem.s (Rem.s (Rem.s Rem.z)))) | apply Rems.s (Rem.s (Rem.s (Rem.s (Rem.s (Rem.s Rem.z))))) | apply Rems.s (Rem.s (Rem.s (Rem.s (Rem.s (Rem.s (Rem.s Rem.z)))))) | apply Rems.s (Rem.s (Rem.s (Rem.s (Rem.s (Rem.s (Rem.s (Rem.s Rem.z))))))) | apply Rems.s (Rem.s (Rem.s (Rem.s (Rem.s (Rem.s (Rem.s (Rem.s (Rem.s Rem.z)))))))) | apply Rems.s (Rem.s (Rem.s (Rem.s (Rem.s (Rem.s (Rem.s (Rem.s (Rem.s (Rem.s Rem.z))))))))))) ?_
                  refine ⟨?_, rfl⟩
                  first | (rw [bc_no hno]; unfold bcCode; simp_all [packV]; done; done) | (rw [bc_no hno]; unfold bcCode; simp_all [packV]; omega; done) | (rw [bc_no hno]; unfold bcCode; simp_all [packV]; (intro hh; omega); done)
              · first
                | (exfalso; first | omega | (unfold bcCode at hno; simp_all; done) | (unfold bcCode at hno; split at hno <;> simp_all <;> omega))
                |
                  refine R_nil ?_
                  refine K_tn ?_
                  refine K_cond_f rfl ?_
                  refine K_skip ?_
                  refine K_tn ?_
                  refine K_seq ?_
                  refine R_region ?_
                  refine r_assign rfl rfl rfl ?_
                  refine R_nil ?_
                  refine K_tn ?_
                  refine K_seq ?_
                  refine R_region ?_
                  refine r_assign rfl rfl rfl ?_
                  refine R_nil ?_
                  refine K_tn ?_
                  refine K_seq ?_
                  refine K_seq ?_
                  refine R_region ?_
                  refine r_assign rfl rfl rfl ?_
                  refine R_nil ?_
                  refine K_tn ?_
                  refine K_block ?_
                  refine K_loop (fun (k : Nat) => k ≤ len) (fun k => [(1, .float .f32 g), (3, .slice (some ⟨b, 0, none⟩) len cap), (4, .float .f32 lo), (5, .float .f32 hi), (6, .pointer (some ⟨b6, 0, none⟩)), (8, .pointer (some ⟨b8, 0, none⟩)), (17, .int .i64 (bestB (fineC n rs g m fs lo hi es) k).1), (18, .int .i64 (bestB (fineC n rs g m fs lo hi es) k).2), (19, .int .i64 (k : Int))]) (fun _ => [(b6, .cells (.int .i8 (n : Int) :: fl .f32 rs).toArray 28 (0, 0)), (b8, .cells (.int .i8 (m : Int) :: fl .f32 fs).toArray 54 (0, 0))]) (fun k => len - k) 0 (by omega) (by repeat (first | exact trivial | refine ⟨rfl, ?_⟩)) (by repeat (first | exact .z | apply Rems.s Rem.z | apply Rems.s (Rem.s Rem.z) | apply Rems.s (Rem.s (Rem.s Rem.z)) | apply Rems.s (Rem.s (Rem.s (Rem.s Rem.z))) | apply Rems.s (Rem.s (Rem.s (Rem.s (Rem.s Rem.z)))) | apply Rems.s (Rem.s (Rem.s (Rem.s (Rem.s (Rem.s Rem.z))))) | apply Rems.s (Rem.s (Rem.s (Rem.s (Rem.s (Rem.s (Rem.s Rem.z)))))) | apply Rems.s (Rem.s (Rem.s (Rem.s (Rem.s (Rem.s (Rem.s (Rem.s Rem.z))))))) | apply Rems.s (Rem.s (Rem.s (Rem.s (Rem.s (Rem.s (Rem.s (Rem.s (Rem.s Rem.z)))))))) | apply Rems.s (Rem.s (Rem.s (Rem.s (Rem.s (Rem.s (Rem.s (Rem.s (Rem.s (Rem.s Rem.z))))))))))) (fun k hp => ?_)
                  refine K_seq ?_
                  refine K_seq ?_
                  refine R_region ?_
                  refine r_move rfl rfl rfl ?_
                  refine r_move rfl rfl rfl ?_
                  refine r_lenS sl_47 rfl rfl rfl ?_
                  refine s_lss rfl rfl rfl rfl (fun h54 => ?_) (fun h54 => ?_)
                  · first
                    | (exfalso; first | omega | (unfold bcCode at hno; simp_all; done) | (unfold bcCode at hno; split at hno <;> simp_all <;> omega))
                    |
                      refine R_nil ?_
                      refine K_tn ?_
                      refine K_cond_t rfl ?_
                      refine K_skip ?_
                      refine K_tn ?_
                      refine K_seq ?_
                      refine K_block ?_
                      refine K_seq ?_
                      refine R_region ?_
                      refine r_move rfl rfl rfl ?_
                      refine r_move rfl rfl rfl ?_
                      refine r_indexS sl_47 sz_23 rfl rfl rfl rfl (by omega) ?_
                      refine r_load ag_23 rfl rfl rfl (by first | exact .h .z | exact .h (.s .z) | exact .h (.s (.s .z)) | exact .h (.s (.s (.s .z))) | exact .h (.s (.s (.s (.s .z)))) | exact .h (.s (.s (.s (.s (.s .z))))) | exact .h (.s (.s (.s (.s (.s (.s .z)))))) | exact .h (.s (.s (.s (.s (.s (.s (.s .z))))))) | exact .h (.s (.s (.s (.s (.s (.s (.s (.s .z)))))))) | exact .x .z | exact .x (.s .z) | exact .x (.s (.s .z)) | exact .x (.s (.s (.s .z))) | exact .x (.s (.s (.s (.s .z)))) | exact .x (.s (.s (.s (.s (.s .z))))) | exact .x (.s (.s (.s (.s (.s (.s .z))))))) (by first | rfl | exact gC (by omega) | exact takeC (by omega) | exact takeC0 (by omega)) ?_
                      refine r_move rfl rfl rfl ?_
                      refine r_move rfl rfl rfl ?_
                      refine r_move rfl rfl rfl ?_
                      refine r_callV cb_85 rfl rfl rfl rfl rfl (absurd rfl rfl) (by repeat (first | exact .z | refine .s (.h .z) ?_ | refine .s (.h (.s .z)) ?_ | refine .s (.h (.s (.s .z))) ?_ | refine .s (.h (.s (.s (.s .z)))) ?_ | refine .s (.h (.s (.s (.s (.s .z))))) ?_ | refine .s (.h (.s (.s (.s (.s (.s .z)))))) ?_ | refine .s (.h (.s (.s (.s (.s (.s (.s .z))))))) ?_ | refine .s (.h (.s (.s (.s (.s (.s (.s (.s .z)))))))) ?_ | refine .s (.h (.s (.s (.s (.s (.s (.s (.s (.s .z))))))))) ?_ | refine .s (.x .z) ?_ | refine .s (.x (.s .z)) ?_ | refine .s (.x (.s (.s .z))) ?_ | refine .s (.x (.s (.s (.s .z)))) ?_ | refine .s (.x (.s (.s (.s (.s .z))))) ?_ | refine .s (.x (.s (.s (.s (.s (.s .z)))))) ?_ | refine .s (.x (.s (.s (.s (.s (.s (.s .z))))))) ?_)) ?_
                      refine r_move rfl rfl rfl ?_
                      refine r_extract rfl rfl rfl rfl ?_
                      refine r_extract rfl rfl rfl rfl ?_
                      refine r_assign rfl rfl rfl ?_
                      refine r_assign rfl rfl rfl ?_
                      refine R_nil ?_
                      refine K_tn ?_
                      refine K_seq ?_
                      refine R_region ?_
                      refine r_fieldAddr fd_54_0 rfl rfl rfl ?_
                      refine r_load ag_22 rfl rfl rfl (by first | exact .h .z | exact .h (.s .z) | exact .h (.s (.s .z)) | exact .h (.s (.s (.s .z))) | exact .h (.s (.s (.s (.s .z)))) | exact .h (.s (.s (.s (.s (.s .z))))) | exact .h (.s (.s (.s (.s (.s (.s .z)))))) | exact .h (.s (.s (.s (.s (.s (.s (.s .z))))))) | exact .h (.s (.s (.s (.s (.s (.s (.s (.s .z)))))))) | exact .x .z | exact .x (.s .z) | exact .x (.s (.s .z)) | exact .x (.s (.s (.s .z))) | exact .x (.s (.s (.s (.s .z)))) | exact .x (.s (.s (.s (.s (.s .z))))) | exact .x (.s (.s (.s (.s (.s (.s .z))))))) (by first | rfl | exact gC (by omega) | exact takeC (by omega) | exact takeC0 (by omega)) ?_
                      refine r_convI ⟨_, un_22⟩ un_2 rfl rfl rfl (i64K (by omega) (by omega)) ?_
                      refine r_move rfl rfl rfl ?_
                      refine r_lenS sl_60 rfl rfl rfl ?_
                      first | refine r_subN rfl rfl rfl rfl (i64K (by omega) (by omega)) (by omega) ?_ | refine r_sub rfl rfl rfl rfl (i64K (by omega) (by omega)) ?_
                      refine r_move rfl rfl rfl ?_
                      refine r_lenS sl_60 rfl rfl rfl ?_
                      first | refine r_subN rfl rfl rfl rfl (i64K (by omega) (by omega)) (by omega) ?_ | refine r_sub rfl rfl rfl rfl (i64K (by omega) (by omega)) ?_
                      refine r_assign rfl rfl rfl ?_
                      refine R_nil ?_
                      refine K_tn ?_
                      refine K_seq ?_
                      refine R_region ?_
                      refine r_move rfl rfl rfl ?_
                      refine r_move rfl rfl rfl ?_
                      refine s_gtr rfl rfl rfl rfl (fun h79 => ?_) (fun h79 => ?_)
                      · first
                        | (exfalso; first | omega | (unfold bcCode at hno; simp_all; done) | (unfold bcCode at hno; split at hno <;> simp_all <;> omega))
                        |
                          refine R_nil ?_
                          refine K_tn ?_
                          refine K_cond_t rfl ?_
                          refine K_seq ?_
                          refine R_region ?_
                          refine r_move rfl rfl rfl ?_
                          refine r_assign rfl rfl rfl ?_
                          refine R_nil ?_
                          refine K_tn ?_
                          refine R_region ?_
                          refine r_move rfl rfl rfl ?_
                          refine r_assign rfl rfl rfl ?_
                          refine R_nil ?_
                          refine K_bn ?_
                          refine K_tn ?_
                          refine R_region ?_
                          refine r_move rfl rfl rfl ?_
                          first | refine r_addN rfl rfl rfl rfl (i64K (by omega) (by omega)) ?_ | refine r_add rfl rfl rfl rfl (i64K (by omega) (by omega)) ?_
                          refine r_assign rfl rfl rfl ?_
                          refine R_nil ?_
                          refine K_tn ?_
                          exact K_again (k + 1) (by omega) (by omega) (by repeat (first | exact trivial | refine ⟨rfl, ?_⟩ | refine ⟨congrArg (fun t : Int × Int => some (Value.int .i64 t.1)) (bestB_t (sc := (fineC n rs g m fs lo hi es)) h79).symm, ?_⟩ | refine ⟨congrArg (fun t : Int × Int => some (Value.int .i64 t.1)) (bestB_f (sc := (fineC n rs g m fs lo hi es)) h79).symm, ?_⟩ | refine ⟨congrArg (fun t : Int × Int => some (Value.int .i64 t.2)) (bestB_t (sc := (fineC n rs g m fs lo hi es)) h79).symm, ?_⟩ | refine ⟨congrArg (fun t : Int × Int => some (Value.int .i64 t.2)) (bestB_f (sc := (fineC n rs g m fs lo hi es)) h79).symm, ?_⟩)) (by repeat (first | exact .z | apply Rems.s Rem.z | apply Rems.s (Rem.s Rem.z) | apply Rems.s (Rem.s (Rem.s Rem.z)) | apply Rems.s (Rem.s (Rem.s (Rem.s Rem.z))) | apply Rems.s (Rem.s (Rem.s (Rem.s (Rem.s Rem.z)))) | apply Rems.s (Rem.s (Rem.s (Rem.s (Rem.s (Rem.s Rem.z))))) | apply Rems.s (Rem.s (Rem.s (Rem.s (Rem.s (Rem.s (Rem.s Rem.z)))))) | apply Rems.s (Rem.s (Rem.s (Rem.s (Rem.s (Rem.s (Rem.s (Rem.s Rem.z))))))) | apply Rems.s (Rem.s (Rem.s (Rem.s (Rem.s (Rem.s (Rem.s (Rem.s (Rem.s Rem.z)))))))) | apply Rems.s (Rem.s (Rem.s (Rem.s (Rem.s (Rem.s (Rem.s (Rem.s (Rem.s (Rem.s Rem.z)))))))))))
                      · first
                        | (exfalso; first | omega | (unfold bcCode at hno; simp_all; done) | (unfold bcCode at hno; split at hno <;> simp_all <;> omega))
                        |
                          refine R_nil ?_
                          refine K_tn ?_
                          refine K_cond_f rfl ?_
                          refine K_skip ?_
                          refine K_bn ?_
                          refine K_tn ?_
                          refine R_region ?_
                          refine r_move rfl rfl rfl ?_
                          first | refine r_addN rfl rfl rfl rfl (i64K (by omega) (by omega)) ?_ | refine r_add rfl rfl rfl rfl (i64K (by omega) (by omega)) ?_
                          refine r_assign rfl rfl rfl ?_
                          refine R_nil ?_
                          refine K_tn ?_
                          exact K_again (k + 1) (by omega) (by omega) (by repeat (first | exact trivial | refine ⟨rfl, ?_⟩ | refine ⟨congrArg (fun t : Int × Int => some (Value.int .i64 t.1)) (bestB_t (sc := (fineC n rs g m fs lo hi es)) h79).symm, ?_⟩ | refine ⟨congrArg (fun t : Int × Int => some (Value.int .i64 t.1)) (bestB_f (sc := (fineC n rs g m fs lo hi es)) h79).symm, ?_⟩ | refine ⟨congrArg (fun t : Int × Int => some (Value.int .i64 t.2)) (bestB_t (sc := (fineC n rs g m fs lo hi es)) h79).symm, ?_⟩ | refine ⟨congrArg (fun t : Int × Int => some (Value.int .i64 t.2)) (bestB_f (sc := (fineC n rs g m fs lo hi es)) h79).symm, ?_⟩)) (by repeat (first | exact .z | apply Rems.s Rem.z | apply Rems.s (Rem.s Rem.z) | apply Rems.s (Rem.s (Rem.s Rem.z)) | apply Rems.s (Rem.s (Rem.s (Rem.s Rem.z))) | apply Rems.s (Rem.s (Rem.s (Rem.s (Rem.s Rem.z)))) | apply Rems.s (Rem.s (Rem.s (Rem.s (Rem.s (Rem.s Rem.z))))) | apply Rems.s (Rem.s (Rem.s (Rem.s (Rem.s (Rem.s (Rem.s Rem.z)))))) | apply Rems.s (Rem.s (Rem.s (Rem.s (Rem.s (Rem.s (Rem.s (Rem.s Rem.z))))))) | apply Rems.s (Rem.s (Rem.s (Rem.s (Rem.s (Rem.s (Rem.s (Rem.s (Rem.s Rem.z)))))))) | apply Rems.s (Rem.s (Rem.s (Rem.s (Rem.s (Rem.s (Rem.s (Rem.s (Rem.s (Rem.s Rem.z)))))))))))
                  · first
                    | (exfalso; first | omega | (unfold bcCode at hno; simp_all; done) | (unfold bcCode at hno; split at hno <;> simp_all <;> omega))
                    |
                      refine R_nil ?_
                      refine K_tn ?_
                      refine K_cond_f rfl ?_
                      refine K_exit ?_
                      refine K_te ?_
                      refine K_te ?_
                      refine K_be ?_
                      refine K_tn ?_
                      refine K_seq ?_
                      refine R_region ?_
                      refine r_move rfl rfl rfl ?_
                      refine r_move rfl rfl rfl ?_
                      refine r_assign rfl rfl rfl ?_
                      refine r_assign rfl rfl rfl ?_
                      refine r_assign rfl rfl rfl ?_
                      refine R_nil ?_
                      refine K_tn ?_
                      refine K_ret ?_
                      refine K_done (H' := []) rfl rfl (.s (.tmp rfl) (.s (.tmp rfl) (.s (.tmp rfl) .z))) (by repeat (first | exact .z | apply Rems.s Rem.z | apply Rems.s (Rem.s Rem.z) | apply Rems.s (Rem.s (Rem.s Rem.z)) | apply Rems.s (Rem.s (Rem.s (Rem.s Rem.z))) | apply Rems.s (Rem.s (Rem.s (Rem.s (Rem.s Rem.z)))) | apply Rems.s (Rem.s (Rem.s (Rem.s (Rem.s (Rem.s Rem.z))))) | apply Rems.s (Rem.s (Rem.s (Rem.s (Rem.s (Rem.s (Rem.s Rem.z)))))) | apply Rems.s (Rem.s (Rem.s (Rem.s (Rem.s (Rem.s (Rem.s (Rem.s Rem.z))))))) | apply Rems.s (Rem.s (Rem.s (Rem.s (Rem.s (Rem.s (Rem.s (Rem.s (Rem.s Rem.z)))))))) | apply Rems.s (Rem.s (Rem.s (Rem.s (Rem.s (Rem.s (Rem.s (Rem.s (Rem.s (Rem.s Rem.z))))))))))) ?_
                      refine ⟨?_, rfl⟩
                      first | (rw [bc_no hno]; unfold bcCode; simp_all [packV]; done; done) | (rw [bc_no hno]; unfold bcCode; simp_all [packV]; omega; done) | (rw [bc_no hno]; unfold bcCode; simp_all [packV]; (intro hh; omega); done)
          · first
            | (exfalso; first | omega | (unfold bcCode at hno; simp_all; done) | (unfold bcCode at hno; split at hno <;> simp_all <;> omega))
            |
              refine r_pick_t rfl rfl rfl rfl ?_
              refine R_nil ?_
              refine K_tn ?_
              refine K_cond_f rfl ?_
              refine K_skip ?_
              refine K_tn ?_
              refine K_seq ?_
              refine K_seq ?_
              refine R_region ?_
              refine r_move rfl rfl rfl ?_
              refine s_neq rfl rfl rfl rfl (fun h49 => ?_) (fun h49 => ?_)
              · first
                | (exfalso; first | omega | (unfold bcCode at hno; simp_all; done) | (unfold bcCode at hno; split at hno <;> simp_all <;> omega))
                |
                  refine R_nil ?_
                  refine K_tn ?_
                  refine K_cond_t rfl ?_
                  refine K_seq ?_
                  refine R_region ?_
                  refine r_move rfl rfl rfl ?_
                  refine r_assign rfl rfl rfl ?_
                  refine r_assign rfl rfl rfl ?_
                  refine r_assign rfl rfl rfl ?_
                  refine R_nil ?_
                  refine K_tn ?_
                  refine K_ret ?_
                  refine K_tr ?_
                  refine K_done (H' := []) rfl rfl (.s (.tmp rfl) (.s (.tmp rfl) (.s (.tmp rfl) .z))) (by repeat (first | exact .z | apply Rems.s Rem.z | apply Rems.s (Rem.s Rem.z) | apply Rems.s (Rem.s (Rem.s Rem.z)) | apply Rems.s (Rem.s (Rem.s (Rem.s Rem.z))) | apply Rems.s (Rem.s (Rem.s (Rem.s (Rem.s Rem.z)))) | apply Rems.s (Rem.s (Rem.s (Rem.s (Rem.s (Rem.s Rem.z))))) | apply Rems.s (Rem.s (Rem.s (Rem.s (Rem.s (Rem.s (Rem.s Rem.z)))))) | apply Rems.s (Rem.s (Rem.s (Rem.s (Rem.s (Rem.s (Rem.s (Rem.s Rem.z))))))) | apply Rems.s (Rem.s (Rem.s (Rem.s (Rem.s (Rem.s (Rem.s (Rem.s (Rem.s Rem.z)))))))) | apply Rems.s (Rem.s (Rem.s (Rem.s (Rem.s (Rem.s (Rem.s (Rem.s (Rem.s (Rem.s Rem.z))))))))))) ?_
                  refine ⟨?_, rfl⟩
                  first | (rw [bc_no hno]; unfold bcCode; simp_all [packV]; done; done) | (rw [bc_no hno]; unfold bcCode; simp_all [packV]; omega; done) | (rw [bc_no hno]; unfold bcCode; simp_all [packV]; (intro hh; omega); done)
              · first
                | (exfalso; first | omega | (unfold bcCode at hno; simp_all; done) | (unfold bcCode at hno; split at hno <;> simp_all <;> omega))
                |
                  refine R_nil ?_
                  refine K_tn ?_
                  refine K_cond_f rfl ?_
                  refine K_skip ?_
                  refine K_tn ?_
                  refine K_seq ?_
                  refine R_region ?_
                  refine r_assign rfl rfl rfl ?_
                  refine R_nil ?_
                  refine K_tn ?_
                  refine K_seq ?_
                  refine R_region ?_
                  refine r_assign rfl rfl rfl ?_
                  refine R_nil ?_
                  refine K_tn ?_
                  refine K_seq ?_
                  refine K_seq ?_
                  refine R_region ?_
                  refine r_assign rfl rfl rfl ?_
                  refine R_nil ?_
                  refine K_tn ?_
                  refine K_block ?_
                  refine K_loop (fun (k : Nat) => k ≤ len) (fun k => [(1, .float .f32 g), (3, .slice (some ⟨b, 0, none⟩) len cap), (4, .float .f32 lo), (5, .float .f32 hi), (6, .pointer (some ⟨b6, 0, none⟩)), (8, .pointer (some ⟨b8, 0, none⟩)), (17, .int .i64 (bestB (fineC n rs g m fs lo hi es) k).1), (18, .int .i64 (bestB (fineC n rs g m fs lo hi es) k).2), (19, .int .i64 (k : Int))]) (fun _ => [(b6, .cells (.int .i8 (n : Int) :: fl .f32 rs).toArray 28 (0, 0)), (b8, .cells (.int .i8 (m : Int) :: fl .f32 fs).toArray 54 (0, 0))]) (fun k => len - k) 0 (by omega) (by repeat (first | exact trivial | refine ⟨rfl, ?_⟩)) (by repeat (first | exact .z | apply Rems.s Rem.z | apply Rems.s (Rem.s Rem.z) | apply Rems.s (Rem.s (Rem.s Rem.z)) | apply Rems.s (Rem.s (Rem.s (Rem.s Rem.z))) | apply Rems.s (Rem.s (Rem.s (Rem.s (Rem.s Rem.z)))) | apply Rems.s (Rem.s (Rem.s (Rem.s (Rem.s (Rem.s Rem.z))))) | apply Rems.s (Rem.s (Rem.s (Rem.s (Rem.s (Rem.s (Rem.s Rem.z)))))) | apply Rems.s (Rem.s (Rem.s (Rem.s (Rem.s (Rem.s (Rem.s (Rem.s Rem.z))))))) | apply Rems.s (Rem.s (Rem.s (Rem.s (Rem.s (Rem.s (Rem.s (Rem.s (Rem.s Rem.z)))))))) | apply Rems.s (Rem.s (Rem.s (Rem.s (Rem.s (Rem.s (Rem.s (Rem.s (Rem.s (Rem.s Rem.z))))))))))) (fun k hp => ?_)
                  refine K_seq ?_
                  refine K_seq ?_
                  refine R_region ?_
                  refine r_move rfl rfl rfl ?_
                  refine r_move rfl rfl rfl ?_
                  refine r_lenS sl_47 rfl rfl rfl ?_
                  refine s_lss rfl rfl rfl rfl (fun h54 => ?_) (fun h54 => ?_)
                  · first
                    | (exfalso; first | omega | (unfold bcCode at hno; simp_all; done) | (unfold bcCode at hno; split at hno <;> simp_all <;> omega))
                    |
                      refine R_nil ?_
                      refine K_tn ?_
                      refine K_cond_t rfl ?_
                      refine K_skip ?_
                      refine K_tn ?_
                      refine K_seq ?_
                      refine K_block ?_
                      refine K_seq ?_
                      refine R_region ?_
                      refine r_move rfl rfl rfl ?_
                      refine r_move rfl rfl rfl ?_
                      refine r_indexS sl_47 sz_23 rfl rfl rfl rfl (by omega) ?_
                      refine r_load ag_23 rfl rfl rfl (by first | exact .h .z | exact .h (.s .z) | exact .h (.s (.s .z)) | exact .h (.s (.s (.s .z))) | exact .h (.s (.s (.s (.s .z)))) | exact .h (.s (.s (.s (.s (.s .z))))) | exact .h (.s (.s (.s (.s (.s (.s .z)))))) | exact .h (.s (.s (.s (.s (.s (.s (.s .z))))))) | exact .h (.s (.s (.s (.s (.s (.s (.s (.s .z)))))))) | exact .x .z | exact .x (.s .z) | exact .x (.s (.s .z)) | exact .x (.s (.s (.s .z))) | exact .x (.s (.s (.s (.s .z)))) | exact .x (.s (.s (.s (.s (.s .z))))) | exact .x (.s (.s (.s (.s (.s (.s .z))))))) (by first | rfl | exact gC (by omega) | exact takeC (by omega) | exact takeC0 (by omega)) ?_
                      refine r_move rfl rfl rfl ?_
                      refine r_move rfl rfl rfl ?_
                      refine r_move rfl rfl rfl ?_
                      refine r_callV cb_85 rfl rfl rfl rfl rfl (absurd rfl rfl) (by repeat (first | exact .z | refine .s (.h .z) ?_ | refine .s (.h (.s .z)) ?_ | refine .s (.h (.s (.s .z))) ?_ | refine .s (.h (.s (.s (.s .z)))) ?_ | refine .s (.h (.s (.s (.s (.s .z))))) ?_ | refine .s (.h (.s (.s (.s (.s (.s .z)))))) ?_ | refine .s (.h (.s (.s (.s (.s (.s (.s .z))))))) ?_ | refine .s (.h (.s (.s (.s (.s (.s (.s (.s .z)))))))) ?_ | refine .s (.h (.s (.s (.s (.s (.s (.s (.s (.s .z))))))))) ?_ | refine .s (.x .z) ?_ | refine .s (.x (.s .z)) ?_ | refine .s (.x (.s (.s .z))) ?_ | refine .s (.x (.s (.s (.s .z)))) ?_ | refine .s (.x (.s (.s (.s (.s .z))))) ?_ | refine .s (.x (.s (.s (.s (.s (.s .z)))))) ?_ | refine .s (.x (.s (.s (.s (.s (.s (.s .z))))))) ?_)) ?_
                      refine r_move rfl rfl rfl ?_
                      refine r_extract rfl rfl rfl rfl ?_
                      refine r_extract rfl rfl rfl rfl ?_
                      refine r_assign rfl rfl rfl ?_
                      refine r_assign rfl rfl rfl ?_
                      refine R_nil ?_
                      refine K_tn ?_
                      refine K_seq ?_
                      refine R_region ?_
                      refine r_fieldAddr fd_54_0 rfl rfl rfl ?_
                      refine r_load ag_22 rfl rfl rfl (by first | exact .h .z | exact .h (.s .z) | exact .h (.s (.s .z)) | exact .h (.s (.s (.s .z))) | exact .h (.s (.s (.s (.s .z)))) | exact .h (.s (.s (.s (.s (.s .z))))) | exact .h (.s (.s (.s (.s (.s (.s .z)))))) | exact .h (.s (.s (.s (.s (.s (.s (.s .z))))))) | exact .h (.s (.s (.s (.s (.s (.s (.s (.s .z)))))))) | exact .x .z | exact .x (.s .z) | exact .x (.s (.s .z)) | exact .x (.s (.s (.s .z))) | exact .x (.s (.s (.s (.s .z)))) | exact .x (.s (.s (.s (.s (.s .z))))) | exact .x (.s (.s (.s (.s (.s (.s .z))))))) (by first | rfl | exact gC (by omega) | exact takeC (by omega) | exact takeC0 (by omega)) ?_
                      refine r_convI ⟨_, un_22⟩ un_2 rfl rfl rfl (i64K (by omega) (by omega)) ?_
                      refine r_move rfl rfl rfl ?_
                      refine r_lenS sl_60 rfl rfl rfl ?_
                      first | refine r_subN rfl rfl rfl rfl (i64K (by omega) (by omega)) (by omega) ?_ | refine r_sub rfl rfl rfl rfl (i64K (by omega) (by omega)) ?_
                      refine r_move rfl rfl rfl ?_
                      refine r_lenS sl_60 rfl rfl rfl ?_
                      first | refine r_subN rfl rfl rfl rfl (i64K (by omega) (by omega)) (by omega) ?_ | refine r_sub rfl rfl rfl rfl (i64K (by omega) (by omega)) ?_
                      refine r_assign rfl rfl rfl ?_
                      refine R_nil ?_
                      refine K_tn ?_
                      refine K_seq ?_
                      refine R_region ?_
                      refine r_move rfl rfl rfl ?_
                      refine r_move rfl rfl rfl ?_
                      refine s_gtr rfl rfl rfl rfl (fun h79 => ?_) (fun h79 => ?_)
                      · first
                        | (exfalso; first | omega | (unfold bcCode at hno; simp_all; done) | (unfold bcCode at hno; split at hno <;> simp_all <;> omega))
                        |
                          refine R_nil ?_
                          refine K_tn ?_
                          refine K_cond_t rfl ?_
                          refine K_seq ?_
                          refine R_region ?_
                          refine r_move rfl rfl rfl ?_
                          refine r_assign rfl rfl rfl ?_
                          refine R_nil ?_
                          refine K_tn ?_
                          refine R_region ?_
                          refine r_move rfl rfl rfl ?_
                          refine r_assign rfl rfl rfl ?_
                          refine R_nil ?_
                          refine K_bn ?_
                          refine K_tn ?_
                          refine R_region ?_
                          refine r_move rfl rfl rfl ?_
                          first | refine r_addN rfl rfl rfl rfl (i64K (by omega) (by omega)) ?_ | refine r_add rfl rfl rfl rfl (i64K (by omega) (by omega)) ?_
                          refine r_assign rfl rfl rfl ?_
                          refine R_nil ?_
                          refine K_tn ?_
                          exact K_again (k + 1) (by omega) (by omega) (by repeat (first | exact trivial | refine ⟨rfl, ?_⟩ | refine ⟨congrArg (fun t : Int × Int => some (Value.int .i64 t.1)) (bestB_t (sc := (fineC n rs g m fs lo hi es)) h79).symm, ?_⟩ | refine ⟨congrArg (fun t : Int × Int => some (Value.int .i64 t.1)) (bestB_f (sc := (fineC n rs g m fs lo hi es)) h79).symm, ?_⟩ | refine ⟨congrArg (fun t : Int × Int => some (Value.int .i64 t.2)) (bestB_t (sc := (fineC n rs g m fs lo hi es)) h79).symm, ?_⟩ | refine ⟨congrArg (fun t : Int × Int => some (Value.int .i64 t.2)) (bestB_f (sc := (fineC n rs g m fs lo hi es)) h79).symm, ?_⟩)) (by repeat (first | exact .z | apply Rems.s Rem.z | apply Rems.s (Rem.s Rem.z) | apply Rems.s (Rem.s (Rem.s Rem.z)) | apply Rems.s (Rem.s (Rem.s (Rem.s Rem.z))) | apply Rems.s (Rem.s (Rem.s (Rem.s (Rem.s Rem.z)))) | apply Rems.s (Rem.s (Rem.s (Rem.s (Rem.s (Rem.s Rem.z))))) | apply Rems.s (Rem.s (Rem.s (Rem.s (Rem.s (Rem.s (Rem.s Rem.z)))))) | apply Rems.s (Rem.s (Rem.s (Rem.s (Rem.s (Rem.s (Rem.s (Rem.s Rem.z))))))) | apply Rems.s (Rem.s (Rem.s (Rem.s (Rem.s (Rem.s (Rem.s (Rem.s (Rem.s Rem.z)))))))) | apply Rems.s (Rem.s (Rem.s (Rem.s (Rem.s (Rem.s (Rem.s (Rem.s (Rem.s (Rem.s Rem.z)))))))))))
                      · first
                        | (exfalso; first | omega | (unfold bcCode at hno; simp_all; done) | (unfold bcCode at hno; split at hno <;> simp_all <;> omega))
                        |
                          refine R_nil ?_
                          refine K_tn ?_
                          refine K_cond_f rfl ?_
                          refine K_skip ?_
                          refine K_bn ?_
                          refine K_tn ?_
                          refine R_region ?_
                          refine r_move rfl rfl rfl ?_
                          first | refine r_addN rfl rfl rfl rfl (i64K (by omega) (by omega)) ?_ | refine r_add rfl rfl rfl rfl (i64K (by omega) (by omega)) ?_
                          refine r_assign rfl rfl rfl ?_
                          refine R_nil ?_
                          refine K_tn ?_
                          exact K_again (k + 1) (by omega) (by omega) (by repeat (first | exact trivial | refine ⟨rfl, ?_⟩ | refine ⟨congrArg (fun t : Int × Int => some (Value.int .i64 t.1)) (bestB_t (sc := (fineC n rs g m fs lo hi es)) h79).symm, ?_⟩ | refine ⟨congrArg (fun t : Int × Int => some (Value.int .i64 t.1)) (bestB_f (sc := (fineC n rs g m fs lo hi es)) h79).symm, ?_⟩ | refine ⟨congrArg (fun t : Int × Int => some (Value.int .i64 t.2)) (bestB_t (sc := (fineC n rs g m fs lo hi es)) h79).symm, ?_⟩ | refine ⟨congrArg (fun t : Int × Int => some (Value.int .i64 t.2)) (bestB_f (sc := (fineC n rs g m fs lo hi es)) h79).symm, ?_⟩)) (by repeat (first | exact .z | apply Rems.s Rem.z | apply Rems.s (Rem.s Rem.z) | apply Rems.s (Rem.s (Rem.s Rem.z)) | apply Rems.s (Rem.s (Rem.s (Rem.s Rem.z))) | apply Rems.s (Rem.s (Rem.s (Rem.s (Rem.s Rem.z)))) | apply Rems.s (Rem.s (Rem.s (Rem.s (Rem.s (Rem.s Rem.z))))) | apply Rems.s (Rem.s (Rem.s (Rem.s (Rem.s (Rem.s (Rem.s Rem.z)))))) | apply Rems.s (Rem.s (Rem.s (Rem.s (Rem.s (Rem.s (Rem.s (Rem.s Rem.z))))))) | apply Rems.s (Rem.s (Rem.s (Rem.s (Rem.s (Rem.s (Rem.s (Rem.s (Rem.s Rem.z)))))))) | apply Rems.s (Rem.s (Rem.s (Rem.s (Rem.s (Rem.s (Rem.s (Rem.s (Rem.s (Rem.s Rem.z)))))))))))
                  · first
                    | (exfalso; first | omega | (unfold bcCode at hno; simp_all; done) | (unfold bcCode at hno; split at hno <;> simp_all <;> omega))
                    |
                      refine R_nil ?_
                      refine K_tn ?_
                      refine K_cond_f rfl ?_
                      refine K_exit ?_
                      refine K_te ?_
                      refine K_te ?_
                      refine K_be ?_
                      refine K_tn ?_
                      refine K_seq ?_
                      refine R_region ?_
                      refine r_move rfl rfl rfl ?_
                      refine r_move rfl rfl rfl ?_
                      refine r_assign rfl rfl rfl ?_
                      refine r_assign rfl rfl rfl ?_
                      refine r_assign rfl rfl rfl ?_
                      refine R_nil ?_
                      refine K_tn ?_
                      refine K_ret ?_
                      refine K_done (H' := []) rfl rfl (.s (.tmp rfl) (.s (.tmp rfl) (.s (.tmp rfl) .z))) (by repeat (first | exact .z | apply Rems.s Rem.z | apply Rems.s (Rem.s Rem.z) | apply Rems.s (Rem.s (Rem.s Rem.z)) | apply Rems.s (Rem.s (Rem.s (Rem.s Rem.z))) | apply Rems.s (Rem.s (Rem.s (Rem.s (Rem.s Rem.z)))) | apply Rems.s (Rem.s (Rem.s (Rem.s (Rem.s (Rem.s Rem.z))))) | apply Rems.s (Rem.s (Rem.s (Rem.s (Rem.s (Rem.s (Rem.s Rem.z)))))) | apply Rems.s (Rem.s (Rem.s (Rem.s (Rem.s (Rem.s (Rem.s (Rem.s Rem.z))))))) | apply Rems.s (Rem.s (Rem.s (Rem.s (Rem.s (Rem.s (Rem.s (Rem.s (Rem.s Rem.z)))))))) | apply Rems.s (Rem.s (Rem.s (Rem.s (Rem.s (Rem.s (Rem.s (Rem.s (Rem.s (Rem.s Rem.z))))))))))) ?_
                      refine ⟨?_, rfl⟩
                      first | (rw [bc_no hno]; unfold bcCode; simp_all [packV]; done; done) | (rw [bc_no hno]; unfold bcCode; simp_all [packV]; omega; done) | (rw [bc_no hno]; unfold bcCode; simp_all [packV]; (intro hh; omega); done)
      · first
        | (exfalso; first | omega | (unfold bcCode at hno; simp_all; done) | (unfold bcCode at hno; split at hno <;> simp_all <;> omega))
        |
          refine r_move rfl rfl rfl ?_
          refine r_skip rfl rfl ?_
          refine r_skip rfl rfl ?_
          refine r_skip rfl rfl ?_
          refine r_pick_f rfl rfl rfl rfl ?_
          refine R_nil ?_
          refine K_tn ?_
          refine K_cond_f rfl ?_
          refine K_skip ?_
          refine K_tn ?_
          refine K_seq ?_
          refine K_seq ?_
          refine R_region ?_
          refine r_move rfl rfl rfl ?_
          refine s_neq rfl rfl rfl rfl (fun h49 => ?_) (fun h49 => ?_)
          · first
            | (exfalso; first | omega | (unfold bcCode at hno; simp_all; done) | (unfold bcCode at hno; split at hno <;> simp_all <;> omega))
            |
              refine R_nil ?_
              refine K_tn ?_
              refine K_cond_t rfl ?_
              refine K_seq ?_
              refine R_region ?_
              refine r_move rfl rfl rfl ?_
              refine r_assign rfl rfl rfl ?_
              refine r_assign rfl rfl rfl ?_
              refine r_assign rfl rfl rfl ?_
              refine R_nil ?_
              refine K_tn ?_
              refine K_ret ?_
              refine K_tr ?_
              refine K_done (H' := []) rfl rfl (.s (.tmp rfl) (.s (.tmp rfl) (.s (.tmp rfl) .z))) (by repeat (first | exact .z | apply Rems.s Rem.z | apply Rems.s (Rem.s Rem.z) | apply Rems.s (Rem.s (Rem.s Rem.z)) | apply Rems.s (Rem.s (Rem.s (Rem.s Rem.z))) | apply Rems.s (Rem.s (Rem.s (Rem.s (Rem.s Rem.z)))) | apply Rems.s (Rem.s (Rem.s (Rem.s (Rem.s (Rem.s Rem.z))))) | apply Rems.s (Rem.s (Rem.s (Rem.s (Rem.s (Rem.s (Rem.s Rem.z)))))) | apply Rems.s (Rem.s (Rem.s (Rem.s (Rem.s (Rem.s (Rem.s (Rem.s Rem.z))))))) | apply Rems.s (Rem.s (Rem.s (Rem.s (Rem.s (Rem.s (Rem.s (Rem.s (Rem.s Rem.z)))))))) | apply Rems.s (Rem.s (Rem.s (Rem.s (Rem.s (Rem.s (Rem.s (Rem.s (Rem.s (Rem.s Rem.z))))))))))) ?_
              refine ⟨?_, rfl⟩
              first | (rw [bc_no hno]; unfold bcCode; simp_all [packV]; done; done) | (rw [bc_no hno]; unfold bcCode; simp_all [packV]; omega; done) | (rw [bc_no hno]; unfold bcCode; simp_all [packV]; (intro hh; omega); done)
          · first
            | (exfalso; first | omega | (unfold bcCode at hno; simp_all; done) | (unfold bcCode at hno; split at hno <;> simp_all <;> omega))
            |
              refine R_nil ?_
              refine K_tn ?_
              refine K_cond_f rfl ?_
              refine K_skip ?_
              refine K_tn ?_
              refine K_seq ?_
              refine R_region ?_
              refine r_assign rfl rfl rfl ?_
              refine R_nil ?_
              refine K_tn ?_
              refine K_seq ?_
              refine R_region ?_
              refine r_assign rfl rfl rfl ?_
              refine R_nil ?_
              refine K_tn ?_
              refine K_seq ?_
              refine K_seq ?_
              refine R_region ?_
              refine r_assign rfl rfl rfl ?_
              refine R_nil ?_
              refine K_tn ?_
              refine K_block ?_
              refine K_loop (fun (k : Nat) => k ≤ len) (fun k => [(1, .float .f32 g), (3, .slice (some ⟨b, 0, none⟩) len cap), (4, .float .f32 lo), (5, .float .f32 hi), (6, .pointer (some ⟨b6, 0, none⟩)), (8, .pointer (some ⟨b8, 0, none⟩)), (17, .int .i64 (bestB (fineC n rs g m fs lo hi es) k).1), (18, .int .i64 (bestB (fineC n rs g m fs lo hi es) k).2), (19, .int .i64 (k : Int))]) (fun _ => [(b6, .cells (.int .i8 (n : Int) :: fl .f32 rs).toArray 28 (0, 0)), (b8, .cells (.int .i8 (m : Int) :: fl .f32 fs).toArray 54 (0, 0))]) (fun k => len - k) 0 (by omega) (by repeat (first | exact trivial | refine ⟨rfl, ?_⟩)) (by repeat (first | exact .z | apply Rems.s Rem.z | apply Rems.s (Rem.s Rem.z) | apply Rems.s (Rem.s (Rem.s Rem.z)) | apply Rems.s (Rem.s (Rem.s (Rem.s Rem.z))) | apply Rems.s (Rem.s (Rem.s (Rem.s (Rem.s Rem.z)))) | apply Rems.s (Rem.s (Rem.s (Rem.s (Rem.s (Rem.s Rem.z))))) | apply Rems.s (Rem.s (Rem.s (Rem.s (Rem.s (Rem.s (Rem.s Rem.z)))))) | apply Rems.s (Rem.s (Rem.s (Rem.s (Rem.s (Rem.s (Rem.s (Rem.s Rem.z))))))) | apply Rems.s (Rem.s (Rem.s (Rem.s (Rem.s (Rem.s (Rem.s (Rem.s (Rem.s Rem.z)))))))) | apply Rems.s (Rem.s (Rem.s (Rem.s (Rem.s (Rem.s (Rem.s (Rem.s (Rem.s (Rem.s Rem.z))))))))))) (fun k hp => ?_)
              refine K_seq ?_
              refine K_seq ?_
              refine R_region ?_
              refine r_move rfl rfl rfl ?_
              refine r_move rfl rfl rfl ?_
              refine r_lenS sl_47 rfl rfl rfl ?_
              refine s_lss rfl rfl rfl rfl (fun h54 => ?_) (fun h54 => ?_)
              · first
                | (exfalso; first | omega | (unfold bcCode at hno; simp_all; done) | (unfold bcCode at hno; split at hno <;> simp_all <;> omega))
                |
                  refine R_nil ?_
                  refine K_tn ?_
                  refine K_cond_t rfl ?_
                  refine K_skip ?_
                  refine K_tn ?_
                  refine K_seq ?_
                  refine K_block ?_
                  refine K_seq ?_
                  refine R_region ?_
                  refine r_move rfl rfl rfl ?_
                  refine r_move rfl rfl rfl ?_
                  refine r_indexS sl_47 sz_23 rfl rfl rfl rfl (by omega) ?_
                  refine r_load ag_23 rfl rfl rfl (by first | exact .h .z | exact .h (.s .z) | exact .h (.s (.s .z)) | exact .h (.s (.s (.s .z))) | exact .h (.s (.s (.s (.s .z)))) | exact .h (.s (.s (.s (.s (.s .z))))) | exact .h (.s (.s (.s (.s (.s (.s .z)))))) | exact .h (.s (.s (.s (.s (.s (.s (.s .z))))))) | exact .h (.s (.s (.s (.s (.s (.s (.s (.s .z)))))))) | exact .x .z | exact .x (.s .z) | exact .x (.s (.s .z)) | exact .x (.s (.s (.s .z))) | exact .x (.s (.s (.s (.s .z)))) | exact .x (.s (.s (.s (.s (.s .z))))) | exact .x (.s (.s (.s (.s (.s (.s .z))))))) (by first | rfl | exact gC (by omega) | exact takeC (by omega) | exact takeC0 (by omega)) ?_
                  refine r_move rfl rfl rfl ?_
                  refine r_move rfl rfl rfl ?_
                  refine r_move rfl rfl rfl ?_
                  refine r_callV cb_85 rfl rfl rfl rfl rfl (absurd rfl rfl) (by repeat (first | exact .z | refine .s (.h .z) ?_ | refine .s (.h (.s .z)) ?_ | refine .s (.h (.s (.s .z))) ?_ | refine .s (.h (.s (.s (.s .z)))) ?_ | refine .s (.h (.s (.s (.s (.s .z))))) ?_ | refine .s (.h (.s (.s (.s (.s (.s .z)))))) ?_ | refine .s (.h (.s (.s (.s (.s (.s (.s .z))))))) ?_ | refine .s (.h (.s (.s (.s (.s (.s (.s (.s .z)))))))) ?_ | refine .s (.h (.s (.s (.s (.s (.s (.s (.s (.s .z))))))))) ?_ | refine .s (.x .z) ?_ | refine .s (.x (.s .z)) ?_ | refine .s (.x (.s (.s .z))) ?_ | refine .s (.x (.s (.s (.s .z)))) ?_ | refine .s (.x (.s (.s (.s (.s .z))))) ?_ | refine .s (.x (.s (.s (.s (.s (.s .z)))))) ?_ | refine .s (.x (.s (.s (.s (.s (.s (.s .z))))))) ?_)) ?_
                  refine r_move rfl rfl rfl ?_
                  refine r_extract rfl rfl rfl rfl ?_
                  refine r_extract rfl rfl rfl rfl ?_
                  refine r_assign rfl rfl rfl ?_
                  refine r_assign rfl rfl rfl ?_
                  refine R_nil ?_
                  refine K_tn ?_
                  refine K_seq ?_
                  refine R_region ?_
                  refine r_fieldAddr fd_54_0 rfl rfl rfl ?_
                  refine r_load ag_22 rfl rfl rfl (by first | exact .h .z | exact .h (.s .z) | exact .h (.s (.s .z)) | exact .h (.s (.s (.s .z))) | exact .h (.s (.s (.s (.s .z)))) | exact .h (.s (.s (.s (.s (.s .z))))) | exact .h (.s (.s (.s (.s (.s (.s .z)))))) | exact .h (.s (.s (.s (.s (.s (.s (.s .z))))))) | exact .h (.s (.s (.s (.s (.s (.s (.s (.s .z)))))))) | exact .x .z | exact .x (.s .z) | exact .x (.s (.s .z)) | exact .x (.s (.s (.s .z))) | exact .x (.s (.s (.s (.s .z)))) | exact .x (.s (.s (.s (.s (.s .z))))) | exact .x (.s (.s (.s (.s (.s (.s .z))))))) (by first | rfl | exact gC (by omega) | exact takeC (by omega) | exact takeC0 (by omega)) ?_
                  refine r_convI ⟨_, un_22⟩ un_2 rfl rfl rfl (i64K (by omega) (by omega)) ?_
                  refine r_move rfl rfl rfl ?_
                  refine r_lenS sl_60 rfl rfl rfl ?_
                  first | refine r_subN rfl rfl rfl rfl (i64K (by omega) (by omega)) (by omega) ?_ | refine r_sub rfl rfl rfl rfl (i64K (by omega) (by omega)) ?_
                  refine r_move rfl rfl rfl ?_
                  refine r_lenS sl_60 rfl rfl rfl ?_
                  first | refine r_subN rfl rfl rfl rfl (i64K (by omega) (by omega)) (by omega) ?_ | refine r_sub rfl rfl rfl rfl (i64K (by omega) (by omega)) ?_
                  refine r_assign rfl rfl rfl ?_
                  refine R_nil ?_
                  refine K_tn ?_
                  refine K_seq ?_
                  refine R_region ?_
                  refine r_move rfl rfl rfl ?_
                  refine r_move rfl rfl rfl ?_
                  refine s_gtr rfl rfl rfl rfl (fun h79 => ?_) (fun h79 => ?_)
                  · first
                    | (exfalso; first | omega | (unfold bcCode at hno; simp_all; done) | (unfold bcCode at hno; split at hno <;> simp_all <;> omega))
                    |
                      refine R_nil ?_
                      refine K_tn ?_
                      refine K_cond_t rfl ?_
                      refine K_seq ?_
                      refine R_region ?_
                      refine r_move rfl rfl rfl ?_
                      refine r_assign rfl rfl rfl ?_
                      refine R_nil ?_
                      refine K_tn ?_
                      refine R_region ?_
                      refine r_move rfl rfl rfl ?_
                      refine r_assign rfl rfl rfl ?_
                      refine R_nil ?_
                      refine K_bn ?_
                      refine K_tn ?_
                      refine R_region ?_
                      refine r_move rfl rfl rfl ?_
                      first | refine r_addN rfl rfl rfl rfl (i64K (by omega) (by omega)) ?_ | refine r_add rfl rfl rfl rfl (i64K (by omega) (by omega)) ?_
                      refine r_assign rfl rfl rfl ?_
                      refine R_nil ?_
                      refine K_tn ?_
                      exact K_again (k + 1) (by omega) (by omega) (by repeat (first | exact trivial | refine ⟨rfl, ?_⟩ | refine ⟨congrArg (fun t : Int × Int => some (Value.int .i64 t.1)) (bestB_t (sc := (fineC n rs g m fs lo hi es)) h79).symm, ?_⟩ | refine ⟨congrArg (fun t : Int × Int => some (Value.int .i64 t.1)) (bestB_f (sc := (fineC n rs g m fs lo hi es)) h79).symm, ?_⟩ | refine ⟨congrArg (fun t : Int × Int => some (Value.int .i64 t.2)) (bestB_t (sc := (fineC n rs g m fs lo hi es)) h79).symm, ?_⟩ | refine ⟨congrArg (fun t : Int × Int => some (Value.int .i64 t.2)) (bestB_f (sc := (fineC n rs g m fs lo hi es)) h79).symm, ?_⟩)) (by repeat (first | exact .z | apply Rems.s Rem.z | apply Rems.s (Rem.s Rem.z) | apply Rems.s (Rem.s (Rem.s Rem.z)) | apply Rems.s (Rem.s (Rem.s (Rem.s Rem.z))) | apply Rems.s (Rem.s (Rem.s (Rem.s (Rem.s Rem.z)))) | apply Rems.s (Rem.s (Rem.s (Rem.s (Rem.s (Rem.s Rem.z))))) | apply Rems.s (Rem.s (Rem.s (Rem.s (Rem.s (Rem.s (Rem.s Rem.z)))))) | apply Rems.s (Rem.s (Rem.s (Rem.s (Rem.s (Rem.s (Rem.s (Rem.s Rem.z))))))) | apply Rems.s (Rem.s (Rem.s (Rem.s (Rem.s (Rem.s (Rem.s (Rem.s (Rem.s Rem.z)))))))) | apply Rems.s (Rem.s (Rem.s (Rem.s (Rem.s (Rem.s (Rem.s (Rem.s (Rem.s (Rem.s Rem.z)))))))))))
                  · first
                    | (exfalso; first | omega | (unfold bcCode at hno; simp_all; done) | (unfold bcCode at hno; split at hno <;> simp_all <;> omega))
                    |
                      refine R_nil ?_
                      refine K_tn ?_
                      refine K_cond_f rfl ?_
                      refine K_skip ?_
                      refine K_bn ?_
                      refine K_tn ?_
                      refine R_region ?_
                      refine r_move rfl rfl rfl ?_
                      first | refine r_addN rfl rfl rfl rfl (i64K (by omega) (by omega)) ?_ | refine r_add rfl rfl rfl rfl (i64K (by omega) (by omega)) ?_
                      refine r_assign rfl rfl rfl ?_
                      refine R_nil ?_
                      refine K_tn ?_
                      exact K_again (k + 1) (by omega) (by omega) (by repeat (first | exact trivial | refine ⟨rfl, ?_⟩ | refine ⟨congrArg (fun t : Int × Int => some (Value.int .i64 t.1)) (bestB_t (sc := (fineC n rs g m fs lo hi es)) h79).symm, ?_⟩ | refine ⟨congrArg (fun t : Int × Int => some (Value.int .i64 t.1)) (bestB_f (sc := (fineC n rs g m fs lo hi es)) h79).symm, ?_⟩ | refine ⟨congrArg (fun t : Int × Int => some (Value.int .i64 t.2)) (bestB_t (sc := (fineC n rs g m fs lo hi es)) h79).symm, ?_⟩ | refine ⟨congrArg (fun t : Int × Int => some (Value.int .i64 t.2)) (bestB_f (sc := (fineC n rs g m fs lo hi es)) h79).symm, ?_⟩)) (by repeat (first | exact .z | apply Rems.s Rem.z | apply Rems.s (Rem.s Rem.z) | apply Rems.s (Rem.s (Rem.s Rem.z)) | apply Rems.s (Rem.s (Rem.s (Rem.s Rem.z))) | apply Rems.s (Rem.s (Rem.s (Rem.s (Rem.s Rem.z)))) | apply Rems.s (Rem.s (Rem.s (Rem.s (Rem.s (Rem.s Rem.z))))) | apply Rems.s (Rem.s (Rem.s (Rem.s (Rem.s (Rem.s (Rem.s Rem.z)))))) | apply Rems.s (Rem.s (Rem.s (Rem.s (Rem.s (Rem.s (Rem.s (Rem.s Rem.z))))))) | apply Rems.s (Rem.s (Rem.s (Rem.s (Rem.s (Rem.s (Rem.s (Rem.s (Rem.s Rem.z)))))))) | apply Rems.s (Rem.s (Rem.s (Rem.s (Rem.s (Rem.s (Rem.s (Rem.s (Rem.s (Rem.s Rem.z)))))))))))
              · first
                | (exfalso; first | omega | (unfold bcCode at hno; simp_all; done) | (unfold bcCode at hno; split at hno <;> simp_all <;> omega))
                |
                  refine R_nil ?_
                  refine K_tn ?_
                  refine K_cond_f rfl ?_
                  refine K_exit ?_
                  refine K_te ?_
                  refine K_te ?_
                  refine K_be ?_
                  refine K_tn ?_
                  refine K_seq ?_
                  refine R_region ?_
                  refine r_move rfl rfl rfl ?_
                  refine r_move rfl rfl rfl ?_
                  refine r_assign rfl rfl rfl ?_
                  refine r_assign rfl rfl rfl ?_
                  refine r_assign rfl rfl rfl ?_
                  refine R_nil ?_
                  refine K_tn ?_
                  refine K_ret ?_
                  refine K_done (H' := []) rfl rfl (.s (.tmp rfl) (.s (.tmp rfl) (.s (.tmp rfl) .z))) (by repeat (first | exact .z | apply Rems.s Rem.z | apply Rems.s (Rem.s Rem.z) | apply Rems.s (Rem.s (Rem.s Rem.z)) | apply Rems.s (Rem.s (Rem.s (Rem.s Rem.z))) | apply Rems.s (Rem.s (Rem.s (Rem.s (Rem.s Rem.z)))) | apply Rems.s (Rem.s (Rem.s (Rem.s (Rem.s (Rem.s Rem.z))))) | apply Rems.s (Rem.s (Rem.s (Rem.s (Rem.s (Rem.s (Rem.s Rem.z)))))) | apply Rems.s (Rem.s (Rem.s (Rem.s (Rem.s (Rem.s (Rem.s (Rem.s Rem.z))))))) | apply Rems.s (Rem.s (Rem.s (Rem.s (Rem.s (Rem.s (Rem.s (Rem.s (Rem.s Rem.z)))))))) | apply Rems.s (Rem.s (Rem.s (Rem.s (Rem.s (Rem.s (Rem.s (Rem.s (Rem.s (Rem.s Rem.z))))))))))) ?_
                  refine ⟨?_, rfl⟩
                  first | (rw [bc_no hno]; unfold bcCode; simp_all [packV]; done; done) | (rw [bc_no hno]; unfold bcCode; simp_all [packV]; omega; done) | (rw [bc_no hno]; unfold bcCode; simp_all [packV]; (intro hh; omega); done)

set_option maxRecDepth 20000 in
theorem impl_BC_ok (n : Nat) (rs : List Nat) (hl : rs.length = 16) (hn : n ≤ 16) (m : Nat) (fs : List Nat) (hf : fs.length = 16) (hm : m ≤ 16) (g lo hi : Nat) (b len cap : Nat) (junk : List Value) (u : TypeId) (es : List Nat) (he : es.length = len) (hcap : len + junk.length = cap) (hb : len ≤ 1048576) (hok : bcCode n rs g m fs es lo hi = 0) : SpecV Try.prog 56 [.agg (.int .i8 (n : Int) :: fl .f32 rs).toArray, .float .f32 g, .agg (.int .i8 (m : Int) :: fl .f32 fs).toArray, .slice (some ⟨b, 0, none⟩) len cap, .float .f32 lo, .float .f32 hi] [(b, .cells (fl .f32 es ++ junk).toArray u (0, 0))] (packV [.int .i64 (bcRes n rs g m fs es lo hi).1, .int .i64 (bcRes n rs g m fs es lo hi).2, .int .i64 (bcCode n rs g m fs es lo hi)]) := by
  refine spec_of Try.func56 rfl Try.ntmps56 rfl (fun w0 => ?_)
  have hn2 : -128 ≤ (n : Int) ∧ (n : Int) ≤ 127 := by omega
  have hm2 : -128 ≤ (m : Int) ∧ (m : Int) ≤ 127 := by omega
  obtain ⟨hc0, hl0, hl8⟩ := bc_ok hok
  obtain ⟨hlh, hvm, hv, hg, hpl, hph, hpc⟩ := bc_all hc0
  have hcmp := part_cmp hpl hph
  refine K_seq ?_
  refine R_region ?_
  refine r_box rfl rfl rfl rfl (fun b6 => ?_)
  refine r_box rfl rfl rfl rfl (fun b8 => ?_)
  refine r_assign rfl rfl rfl ?_
  refine r_assign rfl rfl rfl ?_
  refine r_assign rfl rfl rfl ?_
  refine R_nil ?_
  refine K_tn ?_
  refine K_seq ?_
  refine R_drawG [5, 7, 8, 9] mixed (by decide) (by kernel_rfl) Rems.all ?_
  refine q_pure rfl rfl (p_loadA ag_28 sz_28 rfl (by first | exact .h .z | exact .h (.s .z) | exact .h (.s (.s .z)) | exact .h (.s (.s (.s .z))) | exact .h (.s (.s (.s (.s .z)))) | exact .h (.s (.s (.s (.s (.s .z))))) | exact .h (.s (.s (.s (.s (.s (.s .z)))))) | exact .h (.s (.s (.s (.s (.s (.s (.s .z))))))) | exact .h (.s (.s (.s (.s (.s (.s (.s (.s .z)))))))) | exact .x .z | exact .x (.s .z) | exact .x (.s (.s .z)) | exact .x (.s (.s (.s .z))) | exact .x (.s (.s (.s (.s .z)))) | exact .x (.s (.s (.s (.s (.s .z))))) | exact .x (.s (.s (.s (.s (.s (.s .z))))))) (by first | rfl | exact gC (by omega) | exact takeC (by omega) | exact takeC0 (by omega) | exact gF (by omega))) ?_
  refine q_pure rfl rfl (p_loadA ag_54 sz_54 rfl (by first | exact .h .z | exact .h (.s .z) | exact .h (.s (.s .z)) | exact .h (.s (.s (.s .z))) | exact .h (.s (.s (.s (.s .z)))) | exact .h (.s (.s (.s (.s (.s .z))))) | exact .h (.s (.s (.s (.s (.s (.s .z)))))) | exact .h (.s (.s (.s (.s (.s (.s (.s .z))))))) | exact .h (.s (.s (.s (.s (.s (.s (.s (.s .z)))))))) | exact .x .z | exact .x (.s .z) | exact .x (.s (.s .z)) | exact .x (.s (.s (.s .z))) | exact .x (.s (.s (.s (.s .z)))) | exact .x (.s (.s (.s (.s (.s .z))))) | exact .x (.s (.s (.s (.s (.s (.s .z))))))) (by first | rfl | exact gC (by omega) | exact takeC (by omega) | exact takeC0 (by omega) | exact gF (by omega))) ?_
  refine q_pure rfl rfl (p_move rfl) ?_
  refine q_pure rfl rfl (p_move rfl) ?_
  refine q_pure rfl rfl (p_move rfl) ?_
  refine q_dummy ?_
  refine q_pure rfl rfl (p_move rfl) ?_
  refine q_dummy ?_
  refine q_dummy ?_
  refine q_dummy ?_
  refine q_tree ?_
  refine tree_step ?_
  refine ta_go [(25, _), (26, _), (27, _)] [25, 26, 27] rfl ⟨rfl, ⟨rfl, ⟨rfl, trivial⟩⟩⟩ rfl (by kernel_rfl) (fun F => ?_) ?_
  ·
    refine r_buildSlice sl_47 sz_23 zr_23 rfl rfl rfl rfl rfl (by first | rfl) (fun b28 => ?_)
    refine tree_end rfl (by repeat (first | exact .z | apply Rems.s Rem.z | apply Rems.s (Rem.s Rem.z) | apply Rems.s (Rem.s (Rem.s Rem.z)) | apply Rems.s (Rem.s (Rem.s (Rem.s Rem.z))) | apply Rems.s (Rem.s (Rem.s (Rem.s (Rem.s Rem.z)))) | apply Rems.s (Rem.s (Rem.s (Rem.s (Rem.s (Rem.s Rem.z))))) | apply Rems.s (Rem.s (Rem.s (Rem.s (Rem.s (Rem.s (Rem.s Rem.z)))))) | apply Rems.s (Rem.s (Rem.s (Rem.s (Rem.s (Rem.s (Rem.s (Rem.s Rem.z))))))) | apply Rems.s (Rem.s (Rem.s (Rem.s (Rem.s (Rem.s (Rem.s (Rem.s (Rem.s Rem.z)))))))) | apply Rems.s (Rem.s (Rem.s (Rem.s (Rem.s (Rem.s (Rem.s (Rem.s (Rem.s (Rem.s Rem.z))))))))))) ?_
    refine tree_step ?_
    refine ta_done rfl ?_
    refine ta_go [(29, _)] [29] rfl ⟨rfl, trivial⟩ rfl (by kernel_rfl) (fun F => ?_) ?_
    ·
      refine r_append (xs := [.float .f32 g, .float .f32 lo, .float .f32 hi]) (junk := []) (ys := fl .f32 es) sl_47 sl_47 sz_23 zr_23 rfl by_23 rfl rfl rfl rfl rfl (.s (by first | exact .h .z | exact .h (.s .z) | exact .h (.s (.s .z)) | exact .h (.s (.s (.s .z))) | exact .h (.s (.s (.s (.s .z)))) | exact .h (.s (.s (.s (.s (.s .z))))) | exact .h (.s (.s (.s (.s (.s (.s .z)))))) | exact .h (.s (.s (.s (.s (.s (.s (.s .z))))))) | exact .h (.s (.s (.s (.s (.s (.s (.s (.s .z)))))))) | exact .x .z | exact .x (.s .z) | exact .x (.s (.s .z)) | exact .x (.s (.s (.s .z))) | exact .x (.s (.s (.s (.s .z)))) | exact .x (.s (.s (.s (.s (.s .z))))) | exact .x (.s (.s (.s (.s (.s (.s .z))))))) (takeF2 he)) (by first | exact .z | exact (.s .z) | exact (.s (.s .z)) | exact (.s (.s (.s .z))) | exact (.s (.s (.s (.s .z)))) | exact (.s (.s (.s (.s (.s .z))))) | exact (.s (.s (.s (.s (.s (.s .z)))))) | exact (.s (.s (.s (.s (.s (.s (.s .z))))))) | exact (.s (.s (.s (.s (.s (.s (.s (.s .z)))))))) | exact (.s (.s (.s (.s (.s (.s (.s (.s (.s .z)))))))))) rfl rfl (fl_one _ _) (by omega) (fun b30 cap30 junk30 u30 hj30 hc30 => ?_)
      refine tree_end rfl (by repeat (first | exact .z | apply Rems.s Rem.z | apply Rems.s (Rem.s Rem.z) | apply Rems.s (Rem.s (Rem.s Rem.z)) | apply Rems.s (Rem.s (Rem.s (Rem.s Rem.z))) | apply Rems.s (Rem.s (Rem.s (Rem.s (Rem.s Rem.z)))) | apply Rems.s (Rem.s (Rem.s (Rem.s (Rem.s (Rem.s Rem.z))))) | apply Rems.s (Rem.s (Rem.s (Rem.s (Rem.s (Rem.s (Rem.s Rem.z)))))) | apply Rems.s (Rem.s (Rem.s (Rem.s (Rem.s (Rem.s (Rem.s (Rem.s Rem.z))))))) | apply Rems.s (Rem.s (Rem.s (Rem.s (Rem.s (Rem.s (Rem.s (Rem.s (Rem.s Rem.z)))))))) | apply Rems.s (Rem.s (Rem.s (Rem.s (Rem.s (Rem.s (Rem.s (Rem.s (Rem.s (Rem.s Rem.z))))))))))) ?_
      refine tree_step ?_
      refine ta_done rfl ?_
      refine ta_done rfl ?_
      refine ta_go [(23, _), (24, _)] [23, 24] rfl ⟨rfl, ⟨rfl, trivial⟩⟩ rfl (by kernel_rfl) (fun F => ?_) ?_
      ·
        refine r_callV cb_83 rfl rfl rfl rfl rfl (crateCode n rs hl (by first | assumption | omega) m fs hf (by first | assumption | omega) _ _ _ _ _ _ _ (g :: lo :: hi :: es) (by simp; omega) (fun i hi2 => show (fl .f32 (g :: lo :: hi :: es) ++ junk30)[0 + i * 1]? = _ from gF (by simp; omega)) (by omega)) (by repeat (first | exact .z | refine .s (.h .z) ?_ | refine .s (.h (.s .z)) ?_ | refine .s (.h (.s (.s .z))) ?_ | refine .s (.h (.s (.s (.s .z)))) ?_ | refine .s (.h (.s (.s (.s (.s .z))))) ?_ | refine .s (.h (.s (.s (.s (.s (.s .z)))))) ?_ | refine .s (.h (.s (.s (.s (.s (.s (.s .z))))))) ?_ | refine .s (.h (.s (.s (.s (.s (.s (.s (.s .z)))))))) ?_ | refine .s (.h (.s (.s (.s (.s (.s (.s (.s (.s .z))))))))) ?_ | refine .s (.x .z) ?_ | refine .s (.x (.s .z)) ?_ | refine .s (.x (.s (.s .z))) ?_ | refine .s (.x (.s (.s (.s .z)))) ?_ | refine .s (.x (.s (.s (.s (.s .z))))) ?_ | refine .s (.x (.s (.s (.s (.s (.s .z)))))) ?_ | refine .s (.x (.s (.s (.s (.s (.s (.s .z))))))) ?_)) ?_
        refine tree_end rfl (by repeat (first | exact .z | apply Rems.s Rem.z | apply Rems.s (Rem.s Rem.z) | apply Rems.s (Rem.s (Rem.s Rem.z)) | apply Rems.s (Rem.s (Rem.s (Rem.s Rem.z))) | apply Rems.s (Rem.s (Rem.s (Rem.s (Rem.s Rem.z)))) | apply Rems.s (Rem.s (Rem.s (Rem.s (Rem.s (Rem.s Rem.z))))) | apply Rems.s (Rem.s (Rem.s (Rem.s (Rem.s (Rem.s (Rem.s Rem.z)))))) | apply Rems.s (Rem.s (Rem.s (Rem.s (Rem.s (Rem.s (Rem.s (Rem.s Rem.z))))))) | apply Rems.s (Rem.s (Rem.s (Rem.s (Rem.s (Rem.s (Rem.s (Rem.s (Rem.s Rem.z)))))))) | apply Rems.s (Rem.s (Rem.s (Rem.s (Rem.s (Rem.s (Rem.s (Rem.s (Rem.s (Rem.s Rem.z))))))))))) ?_
        refine tree_step ?_
        refine ta_done rfl ?_
        refine ta_done rfl ?_
        refine ta_done rfl ?_
        refine ta_go [] [] rfl trivial rfl (by kernel_rfl) (fun F => ?_) ?_
        ·
          refine r_assign rfl rfl rfl ?_
          refine tree_end rfl (by repeat (first | exact .z | apply Rems.s Rem.z | apply Rems.s (Rem.s Rem.z) | apply Rems.s (Rem.s (Rem.s Rem.z)) | apply Rems.s (Rem.s (Rem.s (Rem.s Rem.z))) | apply Rems.s (Rem.s (Rem.s (Rem.s (Rem.s Rem.z)))) | apply Rems.s (Rem.s (Rem.s (Rem.s (Rem.s (Rem.s Rem.z))))) | apply Rems.s (Rem.s (Rem.s (Rem.s (Rem.s (Rem.s (Rem.s Rem.z)))))) | apply Rems.s (Rem.s (Rem.s (Rem.s (Rem.s (Rem.s (Rem.s (Rem.s Rem.z))))))) | apply Rems.s (Rem.s (Rem.s (Rem.s (Rem.s (Rem.s (Rem.s (Rem.s (Rem.s Rem.z)))))))) | apply Rems.s (Rem.s (Rem.s (Rem.s (Rem.s (Rem.s (Rem.s (Rem.s (Rem.s (Rem.s Rem.z))))))))))) ?_
          refine tree_zero ?_
          refine K_tn ?_
          refine K_seq ?_
          refine K_block ?_
          refine K_seq ?_
          refine R_region ?_
          refine r_move rfl rfl rfl ?_
          refine s_neq rfl rfl rfl rfl (fun h34 => ?_) (fun h34 => ?_)
          · first
            | (exfalso; first | omega | (simp_all; done) | (simp_all; omega))
            |
              refine r_assign rfl rfl rfl ?_
              refine R_nil ?_
              refine K_tn ?_
              refine K_cond_t rfl ?_
              refine K_seq ?_
              refine R_region ?_
              refine r_move rfl rfl rfl ?_
              refine r_assign rfl rfl rfl ?_
              refine r_assign rfl rfl rfl ?_
              refine r_assign rfl rfl rfl ?_
              refine R_nil ?_
              refine K_tn ?_
              refine K_ret ?_
              refine K_br ?_
              refine K_tr ?_
              refine K_done (H' := []) rfl rfl (.s (.tmp rfl) (.s (.tmp rfl) (.s (.tmp rfl) .z))) (by repeat (first | exact .z | apply Rems.s Rem.z | apply Rems.s (Rem.s Rem.z) | apply Rems.s (Rem.s (Rem.s Rem.z)) | apply Rems.s (Rem.s (Rem.s (Rem.s Rem.z))) | apply Rems.s (Rem.s (Rem.s (Rem.s (Rem.s Rem.z)))) | apply Rems.s (Rem.s (Rem.s (Rem.s (Rem.s (Rem.s Rem.z))))) | apply Rems.s (Rem.s (Rem.s (Rem.s (Rem.s (Rem.s (Rem.s Rem.z)))))) | apply Rems.s (Rem.s (Rem.s (Rem.s (Rem.s (Rem.s (Rem.s (Rem.s Rem.z))))))) | apply Rems.s (Rem.s (Rem.s (Rem.s (Rem.s (Rem.s (Rem.s (Rem.s (Rem.s Rem.z)))))))) | apply Rems.s (Rem.s (Rem.s (Rem.s (Rem.s (Rem.s (Rem.s (Rem.s (Rem.s (Rem.s Rem.z))))))))))) ?_
              refine ⟨?_, rfl⟩
              rw [hok, show bcRes n rs g m fs es lo hi = bestB (fineC n rs g m fs lo hi es) es.length by unfold bcRes; rw [if_pos hok]; simp, he] <;> rfl
          · first
            | (exfalso; first | omega | (simp_all; done) | (simp_all; omega))
            |
              refine r_assign rfl rfl rfl ?_
              refine R_nil ?_
              refine K_tn ?_
              refine K_cond_f rfl ?_
              refine K_seq ?_
              refine R_region ?_
              refine r_move rfl rfl rfl ?_
              refine r_move rfl rfl rfl ?_
              refine s_fcmp rfl rfl rfl rfl (fun _ _ => run_fgt) (fun h39 => ?_) (fun h39 => ?_)
              · first
                | (exfalso; first | omega | (simp_all; done) | (simp_all; omega))
                |
                  refine r_assign rfl rfl rfl ?_
                  refine R_nil ?_
                  refine K_tn ?_
                  refine K_cond_t rfl ?_
                  refine K_seq ?_
                  refine R_region ?_
                  refine r_assign rfl rfl rfl ?_
                  refine r_assign rfl rfl rfl ?_
                  refine r_assign rfl rfl rfl ?_
                  refine R_nil ?_
                  refine K_tn ?_
                  refine K_ret ?_
                  refine K_br ?_
                  refine K_tr ?_
                  refine K_done (H' := []) rfl rfl (.s (.tmp rfl) (.s (.tmp rfl) (.s (.tmp rfl) .z))) (by repeat (first | exact .z | apply Rems.s Rem.z | apply Rems.s (Rem.s Rem.z) | apply Rems.s (Rem.s (Rem.s Rem.z)) | apply Rems.s (Rem.s (Rem.s (Rem.s Rem.z))) | apply Rems.s (Rem.s (Rem.s (Rem.s (Rem.s Rem.z)))) | apply Rems.s (Rem.s (Rem.s (Rem.s (Rem.s (Rem.s Rem.z))))) | apply Rems.s (Rem.s (Rem.s (Rem.s (Rem.s (Rem.s (Rem.s Rem.z)))))) | apply Rems.s (Rem.s (Rem.s (Rem.s (Rem.s (Rem.s (Rem.s (Rem.s Rem.z))))))) | apply Rems.s (Rem.s (Rem.s (Rem.s (Rem.s (Rem.s (Rem.s (Rem.s (Rem.s Rem.z)))))))) | apply Rems.s (Rem.s (Rem.s (Rem.s (Rem.s (Rem.s (Rem.s (Rem.s (Rem.s (Rem.s Rem.z))))))))))) ?_
                  refine ⟨?_, rfl⟩
                  rw [hok, show bcRes n rs g m fs es lo hi = bestB (fineC n rs g m fs lo hi es) es.length by unfold bcRes; rw [if_pos hok]; simp, he] <;> rfl
              · first
                | (exfalso; first | omega | (simp_all; done) | (simp_all; omega))
                |
                  refine r_assign rfl rfl rfl ?_
                  refine R_nil ?_
                  refine K_tn ?_
                  refine K_cond_f rfl ?_
                  refine K_seq ?_
                  refine R_region ?_
                  refine r_move rfl rfl rfl ?_
                  refine r_lenS sl_47 rfl rfl rfl ?_
                  refine s_gtr rfl rfl rfl rfl (fun h43 => ?_) (fun h43 => ?_)
                  · first
                    | (exfalso; first | omega | (simp_all; done) | (simp_all; omega))
                    |
                      refine r_assign rfl rfl rfl ?_
                      refine R_nil ?_
                      refine K_tn ?_
                      refine K_cond_t rfl ?_
                      refine K_seq ?_
                      refine R_region ?_
                      refine r_assign rfl rfl rfl ?_
                      refine r_assign rfl rfl rfl ?_
                      refine r_assign rfl rfl rfl ?_
                      refine R_nil ?_
                      refine K_tn ?_
                      refine K_ret ?_
                      refine K_br ?_
                      refine K_tr ?_
                      refine K_done (H' := []) rfl rfl (.s (.tmp rfl) (.s (.tmp rfl) (.s (.tmp rfl) .z))) (by repeat (first | exact .z | apply Rems.s Rem.z | apply Rems.s (Rem.s Rem.z) | apply Rems.s (Rem.s (Rem.s Rem.z)) | apply Rems.s (Rem.s (Rem.s (Rem.s Rem.z))) | apply Rems.s (Rem.s (Rem.s (Rem.s (Rem.s Rem.z)))) | apply Rems.s (Rem.s (Rem.s (Rem.s (Rem.s (Rem.s Rem.z))))) | apply Rems.s (Rem.s (Rem.s (Rem.s (Rem.s (Rem.s (Rem.s Rem.z)))))) | apply Rems.s (Rem.s (Rem.s (Rem.s (Rem.s (Rem.s (Rem.s (Rem.s Rem.z))))))) | apply Rems.s (Rem.s (Rem.s (Rem.s (Rem.s (Rem.s (Rem.s (Rem.s (Rem.s Rem.z)))))))) | apply Rems.s (Rem.s (Rem.s (Rem.s (Rem.s (Rem.s (Rem.s (Rem.s (Rem.s (Rem.s Rem.z))))))))))) ?_
                      refine ⟨?_, rfl⟩
                      rw [hok, show bcRes n rs g m fs es lo hi = bestB (fineC n rs g m fs lo hi es) es.length by unfold bcRes; rw [if_pos hok]; simp, he] <;> rfl
                  · first
                    | (exfalso; first | omega | (simp_all; done) | (simp_all; omega))
                    |
                      refine r_assign rfl rfl rfl ?_
                      refine R_nil ?_
                      refine K_tn ?_
                      refine K_cond_f rfl ?_
                      refine K_seq ?_
                      refine R_region ?_
                      refine r_move rfl rfl rfl ?_
                      refine r_lenS sl_47 rfl rfl rfl ?_
                      refine s_eql rfl rfl rfl rfl (fun h47 => ?_) (fun h47 => ?_)
                      · first
                        | (exfalso; first | omega | (simp_all; done) | (simp_all; omega))
                        |
                          refine r_assign rfl rfl rfl ?_
                          refine R_nil ?_
                          refine K_tn ?_
                          refine K_cond_t rfl ?_
                          refine K_seq ?_
                          refine R_region ?_
                          refine r_assign rfl rfl rfl ?_
                          refine r_assign rfl rfl rfl ?_
                          refine r_assign rfl rfl rfl ?_
                          refine R_nil ?_
                          refine K_tn ?_
                          refine K_ret ?_
                          refine K_br ?_
                          refine K_tr ?_
                          refine K_done (H' := []) rfl rfl (.s (.tmp rfl) (.s (.tmp rfl) (.s (.tmp rfl) .z))) (by repeat (first | exact .z | apply Rems.s Rem.z | apply Rems.s (Rem.s Rem.z) | apply Rems.s (Rem.s (Rem.s Rem.z)) | apply Rems.s (Rem.s (Rem.s (Rem.s Rem.z))) | apply Rems.s (Rem.s (Rem.s (Rem.s (Rem.s Rem.z)))) | apply Rems.s (Rem.s (Rem.s (Rem.s (Rem.s (Rem.s Rem.z))))) | apply Rems.s (Rem.s (Rem.s (Rem.s (Rem.s (Rem.s (Rem.s Rem.z)))))) | apply Rems.s (Rem.s (Rem.s (Rem.s (Rem.s (Rem.s (Rem.s (Rem.s Rem.z))))))) | apply Rems.s (Rem.s (Rem.s (Rem.s (Rem.s (Rem.s (Rem.s (Rem.s (Rem.s Rem.z)))))))) | apply Rems.s (Rem.s (Rem.s (Rem.s (Rem.s (Rem.s (Rem.s (Rem.s (Rem.s (Rem.s Rem.z))))))))))) ?_
                          refine ⟨?_, rfl⟩
                          rw [hok, show bcRes n rs g m fs es lo hi = bestB (fineC n rs g m fs lo hi es) es.length by unfold bcRes; rw [if_pos hok]; simp, he] <;> rfl
                      · first
                        | (exfalso; first | omega | (simp_all; done) | (simp_all; omega))
                        |
                          refine r_assign rfl rfl rfl ?_
                          refine R_nil ?_
                          refine K_tn ?_
                          refine K_cond_f rfl ?_
                          refine K_skip ?_
                          refine K_bn ?_
                          refine K_tn ?_
                          refine K_seq ?_
                          refine R_region ?_
                          refine r_assign rfl rfl rfl ?_
                          refine r_assign rfl rfl rfl ?_
                          refine R_nil ?_
                          refine K_tn ?_
                          refine K_seq ?_
                          refine K_seq ?_
                          refine R_region ?_
                          refine r_move rfl rfl rfl ?_
                          refine r_lenS sl_47 rfl rfl rfl ?_
                          refine r_move rfl rfl rfl ?_
                          refine R_nil ?_
                          refine K_tn ?_
                          refine K_block ?_
                          refine K_loop (fun (k : Nat) => k ≤ len) (fun k => [(1, .float .f32 g), (48, .slice (some ⟨b, 0, none⟩) len cap), (4, .float .f32 lo), (5, .float .f32 hi), (6, .pointer (some ⟨b6, 0, none⟩)), (8, .pointer (some ⟨b8, 0, none⟩)), (16, .int .i64 (bestB (fineC n rs g m fs lo hi es) k).1), (17, .int .i64 (bestB (fineC n rs g m fs lo hi es) k).2), (50, .int .i64 (k : Int)), (49, .int .i64 (len : Int))]) (fun _ => [(b6, .cells (.int .i8 (n : Int) :: fl .f32 rs).toArray 28 (0, 0)), (b8, .cells (.int .i8 (m : Int) :: fl .f32 fs).toArray 54 (0, 0))]) (fun k => len - k) 0 (by omega) (by repeat (first | exact trivial | refine ⟨rfl, ?_⟩)) (by repeat (first | exact .z | apply Rems.s Rem.z | apply Rems.s (Rem.s Rem.z) | apply Rems.s (Rem.s (Rem.s Rem.z)) | apply Rems.s (Rem.s (Rem.s (Rem.s Rem.z))) | apply Rems.s (Rem.s (Rem.s (Rem.s (Rem.s Rem.z)))) | apply Rems.s (Rem.s (Rem.s (Rem.s (Rem.s (Rem.s Rem.z))))) | apply Rems.s (Rem.s (Rem.s (Rem.s (Rem.s (Rem.s (Rem.s Rem.z)))))) | apply Rems.s (Rem.s (Rem.s (Rem.s (Rem.s (Rem.s (Rem.s (Rem.s Rem.z))))))) | apply Rems.s (Rem.s (Rem.s (Rem.s (Rem.s (Rem.s (Rem.s (Rem.s (Rem.s Rem.z)))))))) | apply Rems.s (Rem.s (Rem.s (Rem.s (Rem.s (Rem.s (Rem.s (Rem.s (Rem.s (Rem.s Rem.z))))))))))) (fun k hp => ?_)
                          refine K_seq ?_
                          refine R_region ?_
                          refine s_lss rfl rfl rfl rfl (fun h51 => ?_) (fun h51 => ?_)
                          · first
                            | (exfalso; first | omega | (simp_all; done) | (simp_all; omega))
                            |
                              refine R_nil ?_
                              refine K_tn ?_
                              refine K_seq ?_
                              refine K_cond_t rfl ?_
                              refine K_skip ?_
                              refine K_tn ?_
                              refine K_seq ?_
                              refine K_block ?_
                              refine K_seq ?_
                              refine R_region ?_
                              refine r_move rfl rfl rfl ?_
                              refine r_indexS sl_47 sz_23 rfl rfl rfl rfl (by omega) ?_
                              refine r_load ag_23 rfl rfl rfl (by first | exact .h .z | exact .h (.s .z) | exact .h (.s (.s .z)) | exact .h (.s (.s (.s .z))) | exact .h (.s (.s (.s (.s .z)))) | exact .h (.s (.s (.s (.s (.s .z))))) | exact .h (.s (.s (.s (.s (.s (.s .z)))))) | exact .h (.s (.s (.s (.s (.s (.s (.s .z))))))) | exact .h (.s (.s (.s (.s (.s (.s (.s (.s .z)))))))) | exact .x .z | exact .x (.s .z) | exact .x (.s (.s .z)) | exact .x (.s (.s (.s .z))) | exact .x (.s (.s (.s (.s .z)))) | exact .x (.s (.s (.s (.s (.s .z))))) | exact .x (.s (.s (.s (.s (.s (.s .z))))))) (by first | rfl | exact gC (by omega) | exact takeC (by omega) | exact takeC0 (by omega) | exact gF (by omega)) ?_
                              refine r_assign rfl rfl rfl ?_
                              refine r_assign rfl rfl rfl ?_
                              refine R_nil ?_
                              refine K_tn ?_
                              refine K_seq ?_
                              refine R_region ?_
                              have hle1 := filterI_le m (isEarly (arrF n rs (es.getD k 0) g) fs hi)
                              have hle2 := filterI_le m (isLate (arrF n rs (es.getD k 0) g) fs lo)
                              have hck := hpc k (by omega)
                              have hokk := okC_mk (rs := rs) hvm hv hck hg hpl hph
                              refine r_loadA ag_28 sz_28 rfl rfl rfl (by first | exact .h .z | exact .h (.s .z) | exact .h (.s (.s .z)) | exact .h (.s (.s (.s .z))) | exact .h (.s (.s (.s (.s .z)))) | exact .h (.s (.s (.s (.s (.s .z))))) | exact .h (.s (.s (.s (.s (.s (.s .z)))))) | exact .h (.s (.s (.s (.s (.s (.s (.s .z))))))) | exact .h (.s (.s (.s (.s (.s (.s (.s (.s .z)))))))) | exact .x .z | exact .x (.s .z) | exact .x (.s (.s .z)) | exact .x (.s (.s (.s .z))) | exact .x (.s (.s (.s (.s .z)))) | exact .x (.s (.s (.s (.s (.s .z))))) | exact .x (.s (.s (.s (.s (.s (.s .z))))))) (by first | rfl | exact gC (by omega) | exact takeC (by omega) | exact takeC0 (by omega) | exact gF (by omega)) ?_
                              refine r_move rfl rfl rfl ?_
                              refine r_move rfl rfl rfl ?_
                              refine r_loadA ag_54 sz_54 rfl rfl rfl (by first | exact .h .z | exact .h (.s .z) | exact .h (.s (.s .z)) | exact .h (.s (.s (.s .z))) | exact .h (.s (.s (.s (.s .z)))) | exact .h (.s (.s (.s (.s (.s .z))))) | exact .h (.s (.s (.s (.s (.s (.s .z)))))) | exact .h (.s (.s (.s (.s (.s (.s (.s .z))))))) | exact .h (.s (.s (.s (.s (.s (.s (.s (.s .z)))))))) | exact .x .z | exact .x (.s .z) | exact .x (.s (.s .z)) | exact .x (.s (.s (.s .z))) | exact .x (.s (.s (.s (.s .z)))) | exact .x (.s (.s (.s (.s (.s .z))))) | exact .x (.s (.s (.s (.s (.s (.s .z))))))) (by first | rfl | exact gC (by omega) | exact takeC (by omega) | exact takeC0 (by omega) | exact gF (by omega)) ?_
                              refine r_callV cb_84 rfl rfl rfl rfl rfl (arrive n rs hl hn (es.getD k 0) g hv hck hg m fs hf hm hvm) (by repeat (first | exact .z | refine .s (.h .z) ?_ | refine .s (.h (.s .z)) ?_ | refine .s (.h (.s (.s .z))) ?_ | refine .s (.h (.s (.s (.s .z)))) ?_ | refine .s (.h (.s (.s (.s (.s .z))))) ?_ | refine .s (.h (.s (.s (.s (.s (.s .z)))))) ?_ | refine .s (.h (.s (.s (.s (.s (.s (.s .z))))))) ?_ | refine .s (.h (.s (.s (.s (.s (.s (.s (.s .z)))))))) ?_ | refine .s (.h (.s (.s (.s (.s (.s (.s (.s (.s .z))))))))) ?_ | refine .s (.x .z) ?_ | refine .s (.x (.s .z)) ?_ | refine .s (.x (.s (.s .z))) ?_ | refine .s (.x (.s (.s (.s .z)))) ?_ | refine .s (.x (.s (.s (.s (.s .z))))) ?_ | refine .s (.x (.s (.s (.s (.s (.s .z)))))) ?_ | refine .s (.x (.s (.s (.s (.s (.s (.s .z))))))) ?_)) ?_
                              refine r_move rfl rfl rfl ?_
                              refine r_move rfl rfl rfl ?_
                              refine r_callR cb_86 rfl rfl rfl rfl rfl (earlyAndLate2 n rs hl hn m fs hf hm (es.getD k 0) g lo hi hokk hlh) (by repeat (first | exact .z | refine .s (.h .z) ?_ | refine .s (.h (.s .z)) ?_ | refine .s (.h (.s (.s .z))) ?_ | refine .s (.h (.s (.s (.s .z)))) ?_ | refine .s (.h (.s (.s (.s (.s .z))))) ?_ | refine .s (.h (.s (.s (.s (.s (.s .z)))))) ?_ | refine .s (.h (.s (.s (.s (.s (.s (.s .z))))))) ?_ | refine .s (.h (.s (.s (.s (.s (.s (.s (.s .z)))))))) ?_ | refine .s (.h (.s (.s (.s (.s (.s (.s (.s (.s .z))))))))) ?_ | refine .s (.x .z) ?_ | refine .s (.x (.s .z)) ?_ | refine .s (.x (.s (.s .z))) ?_ | refine .s (.x (.s (.s (.s .z)))) ?_ | refine .s (.x (.s (.s (.s (.s .z))))) ?_ | refine .s (.x (.s (.s (.s (.s (.s .z)))))) ?_ | refine .s (.x (.s (.s (.s (.s (.s (.s .z))))))) ?_)) ?_
                              rintro _ _ ⟨p, q, rfl, hq1, hq2, rfl⟩
                              refine r_move rfl rfl rfl ?_
                              refine r_extract rfl rfl rfl rfl ?_
                              refine r_extract rfl rfl rfl rfl ?_
                              refine r_assign rfl rfl rfl ?_
                              refine r_assign rfl rfl rfl ?_
                              refine R_nil ?_
                              refine K_tn ?_
                              refine K_seq ?_
                              refine R_region ?_
                              refine r_fieldAddr fd_54_0 rfl rfl rfl ?_
                              refine r_load ag_22 rfl rfl rfl (by first | exact .h .z | exact .h (.s .z) | exact .h (.s (.s .z)) | exact .h (.s (.s (.s .z))) | exact .h (.s (.s (.s (.s .z)))) | exact .h (.s (.s (.s (.s (.s .z))))) | exact .h (.s (.s (.s (.s (.s (.s .z)))))) | exact .h (.s (.s (.s (.s (.s (.s (.s .z))))))) | exact .h (.s (.s (.s (.s (.s (.s (.s (.s .z)))))))) | exact .x .z | exact .x (.s .z) | exact .x (.s (.s .z)) | exact .x (.s (.s (.s .z))) | exact .x (.s (.s (.s (.s .z)))) | exact .x (.s (.s (.s (.s (.s .z))))) | exact .x (.s (.s (.s (.s (.s (.s .z))))))) (by first | rfl | exact gC (by omega) | exact takeC (by omega) | exact takeC0 (by omega) | exact gF (by omega)) ?_
                              refine r_convI ⟨_, un_22⟩ un_3 rfl rfl rfl (i64K (by omega) (by omega)) ?_
                              refine r_move rfl rfl rfl ?_
                              refine r_lenS sl_60 rfl rfl rfl ?_
                              refine r_sub rfl rfl rfl rfl (i64K (by omega) (by omega)) ?_
                              refine r_move rfl rfl rfl ?_
                              refine r_lenS sl_60 rfl rfl rfl ?_
                              refine r_sub rfl rfl rfl rfl (i64K (by omega) (by omega)) ?_
                              refine r_assign rfl rfl rfl ?_
                              refine R_nil ?_
                              refine K_tn ?_
                              refine K_seq ?_
                              refine R_region ?_
                              refine r_move rfl rfl rfl ?_
                              refine r_move rfl rfl rfl ?_
                              refine s_gtr rfl rfl rfl rfl (fun h77 => ?_) (fun h77 => ?_)
                              · first
                                | (exfalso; first | omega | (simp_all; done) | (simp_all; omega))
                                |
                                  refine R_nil ?_
                                  refine K_tn ?_
                                  refine K_cond_t rfl ?_
                                  refine R_region ?_
                                  refine r_move rfl rfl rfl ?_
                                  refine r_move rfl rfl rfl ?_
                                  refine r_assign rfl rfl rfl ?_
                                  refine r_assign rfl rfl rfl ?_
                                  refine R_nil ?_
                                  refine K_bn ?_
                                  refine K_tn ?_
                                  refine R_region ?_
                                  first | refine r_addN rfl rfl rfl rfl (i64K (by omega) (by omega)) ?_ | refine r_add rfl rfl rfl rfl (i64K (by omega) (by omega)) ?_
                                  refine r_move rfl rfl rfl ?_
                                  refine R_nil ?_
                                  refine K_tn ?_
                                  exact K_again (k + 1) (by omega) (by omega) (by repeat (first | exact trivial | refine ⟨rfl, ?_⟩ | refine ⟨congrArg (fun t : Int × Int => some (Value.int .i64 t.1)) (bestB_t (sc := (fineC n rs g m fs lo hi es)) h77).symm, ?_⟩ | refine ⟨congrArg (fun t : Int × Int => some (Value.int .i64 t.1)) (bestB_f (sc := (fineC n rs g m fs lo hi es)) h77).symm, ?_⟩ | refine ⟨congrArg (fun t : Int × Int => some (Value.int .i64 t.2)) (bestB_t (sc := (fineC n rs g m fs lo hi es)) h77).symm, ?_⟩ | refine ⟨congrArg (fun t : Int × Int => some (Value.int .i64 t.2)) (bestB_f (sc := (fineC n rs g m fs lo hi es)) h77).symm, ?_⟩)) (by repeat (first | exact .z | apply Rems.s Rem.z | apply Rems.s (Rem.s Rem.z) | apply Rems.s (Rem.s (Rem.s Rem.z)) | apply Rems.s (Rem.s (Rem.s (Rem.s Rem.z))) | apply Rems.s (Rem.s (Rem.s (Rem.s (Rem.s Rem.z)))) | apply Rems.s (Rem.s (Rem.s (Rem.s (Rem.s (Rem.s Rem.z))))) | apply Rems.s (Rem.s (Rem.s (Rem.s (Rem.s (Rem.s (Rem.s Rem.z)))))) | apply Rems.s (Rem.s (Rem.s (Rem.s (Rem.s (Rem.s (Rem.s (Rem.s Rem.z))))))) | apply Rems.s (Rem.s (Rem.s (Rem.s (Rem.s (Rem.s (Rem.s (Rem.s (Rem.s Rem.z)))))))) | apply Rems.s (Rem.s (Rem.s (Rem.s (Rem.s (Rem.s (Rem.s (Rem.s (Rem.s (Rem.s Rem.z)))))))))))
                              · first
                                | (exfalso; first | omega | (simp_all; done) | (simp_all; omega))
                                |
                                  refine R_nil ?_
                                  refine K_tn ?_
                                  refine K_cond_f rfl ?_
                                  refine K_skip ?_
                                  refine K_bn ?_
                                  refine K_tn ?_
                                  refine R_region ?_
                                  first | refine r_addN rfl rfl rfl rfl (i64K (by omega) (by omega)) ?_ | refine r_add rfl rfl rfl rfl (i64K (by omega) (by omega)) ?_
                                  refine r_move rfl rfl rfl ?_
                                  refine R_nil ?_
                                  refine K_tn ?_
                                  exact K_again (k + 1) (by omega) (by omega) (by repeat (first | exact trivial | refine ⟨rfl, ?_⟩ | refine ⟨congrArg (fun t : Int × Int => some (Value.int .i64 t.1)) (bestB_t (sc := (fineC n rs g m fs lo hi es)) h77).symm, ?_⟩ | refine ⟨congrArg (fun t : Int × Int => some (Value.int .i64 t.1)) (bestB_f (sc := (fineC n rs g m fs lo hi es)) h77).symm, ?_⟩ | refine ⟨congrArg (fun t : Int × Int => some (Value.int .i64 t.2)) (bestB_t (sc := (fineC n rs g m fs lo hi es)) h77).symm, ?_⟩ | refine ⟨congrArg (fun t : Int × Int => some (Value.int .i64 t.2)) (bestB_f (sc := (fineC n rs g m fs lo hi es)) h77).symm, ?_⟩)) (by repeat (first | exact .z | apply Rems.s Rem.z | apply Rems.s (Rem.s Rem.z) | apply Rems.s (Rem.s (Rem.s Rem.z)) | apply Rems.s (Rem.s (Rem.s (Rem.s Rem.z))) | apply Rems.s (Rem.s (Rem.s (Rem.s (Rem.s Rem.z)))) | apply Rems.s (Rem.s (Rem.s (Rem.s (Rem.s (Rem.s Rem.z))))) | apply Rems.s (Rem.s (Rem.s (Rem.s (Rem.s (Rem.s (Rem.s Rem.z)))))) | apply Rems.s (Rem.s (Rem.s (Rem.s (Rem.s (Rem.s (Rem.s (Rem.s Rem.z))))))) | apply Rems.s (Rem.s (Rem.s (Rem.s (Rem.s (Rem.s (Rem.s (Rem.s (Rem.s Rem.z)))))))) | apply Rems.s (Rem.s (Rem.s (Rem.s (Rem.s (Rem.s (Rem.s (Rem.s (Rem.s (Rem.s Rem.z)))))))))))
                          · first
                            | (exfalso; first | omega | (simp_all; done) | (simp_all; omega))
                            |
                              refine R_nil ?_
                              refine K_tn ?_
                              refine K_seq ?_
                              refine K_cond_f rfl ?_
                              refine K_exit ?_
                              refine K_te ?_
                              refine K_te ?_
                              refine K_be ?_
                              refine K_tn ?_
                              refine K_seq ?_
                              refine R_region ?_
                              have hkn : k = len := by omega
                              subst hkn
                              refine r_move rfl rfl rfl ?_
                              refine r_move rfl rfl rfl ?_
                              refine r_assign rfl rfl rfl ?_
                              refine r_assign rfl rfl rfl ?_
                              refine r_assign rfl rfl rfl ?_
                              refine R_nil ?_
                              refine K_tn ?_
                              refine K_ret ?_
                              refine K_done (H' := []) rfl rfl (.s (.tmp rfl) (.s (.tmp rfl) (.s (.tmp rfl) .z))) (by repeat (first | exact .z | apply Rems.s Rem.z | apply Rems.s (Rem.s Rem.z) | apply Rems.s (Rem.s (Rem.s Rem.z)) | apply Rems.s (Rem.s (Rem.s (Rem.s Rem.z))) | apply Rems.s (Rem.s (Rem.s (Rem.s (Rem.s Rem.z)))) | apply Rems.s (Rem.s (Rem.s (Rem.s (Rem.s (Rem.s Rem.z))))) | apply Rems.s (Rem.s (Rem.s (Rem.s (Rem.s (Rem.s (Rem.s Rem.z)))))) | apply Rems.s (Rem.s (Rem.s (Rem.s (Rem.s (Rem.s (Rem.s (Rem.s Rem.z))))))) | apply Rems.s (Rem.s (Rem.s (Rem.s (Rem.s (Rem.s (Rem.s (Rem.s (Rem.s Rem.z)))))))) | apply Rems.s (Rem.s (Rem.s (Rem.s (Rem.s (Rem.s (Rem.s (Rem.s (Rem.s (Rem.s Rem.z))))))))))) ?_
                              refine ⟨?_, rfl⟩
                              rw [hok, show bcRes n rs g m fs es lo hi = bestB (fineC n rs g m fs lo hi es) es.length by unfold bcRes; rw [if_pos hok]; simp, he] <;> rfl
        exact ta_nil
      refine ta_wait (by kernel_rfl) ?_
      exact ta_nil
    refine ta_wait (by kernel_rfl) ?_
    refine ta_wait (by kernel_rfl) ?_
    exact ta_nil
  refine ta_wait (by kernel_rfl) ?_
  refine ta_wait (by kernel_rfl) ?_
  refine ta_wait (by kernel_rfl) ?_
  exact ta_nil

set_option maxRecDepth 20000 in
theorem impl_BC_no (n : Int) (rs : List Nat) (hl : rs.length = 16) (hn : -128 ≤ n ∧ n ≤ 127) (m : Int) (fs : List Nat) (hf : fs.length = 16) (hm : -128 ≤ m ∧ m ≤ 127) (g lo hi : Nat) (b len cap : Nat) (junk : List Value) (u : TypeId) (es : List Nat) (he : es.length = len) (hcap : len + junk.length = cap) (hb : len ≤ 1048576) (hno : bcCode n rs g m fs es lo hi ≠ 0) : SpecV Try.prog 56 [.agg (.int .i8 n :: fl .f32 rs).toArray, .float .f32 g, .agg (.int .i8 m :: fl .f32 fs).toArray, .slice (some ⟨b, 0, none⟩) len cap, .float .f32 lo, .float .f32 hi] [(b, .cells (fl .f32 es ++ junk).toArray u (0, 0))] (packV [.int .i64 (bcRes n rs g m fs es lo hi).1, .int .i64 (bcRes n rs g m fs es lo hi).2, .int .i64 (bcCode n rs g m fs es lo hi)]) := by
  refine spec_of Try.func56 rfl Try.ntmps56 rfl (fun w0 => ?_)
  refine K_seq ?_
  refine R_region ?_
  refine r_box rfl rfl rfl rfl (fun b6 => ?_)
  refine r_box rfl rfl rfl rfl (fun b8 => ?_)
  refine r_assign rfl rfl rfl ?_
  refine r_assign rfl rfl rfl ?_
  refine r_assign rfl rfl rfl ?_
  refine R_nil ?_
  refine K_tn ?_
  refine K_seq ?_
  refine R_drawG [5, 7, 8, 9] mixed (by decide) (by kernel_rfl) Rems.all ?_
  refine q_pure rfl rfl (p_loadA ag_28 sz_28 rfl (by first | exact .h .z | exact .h (.s .z) | exact .h (.s (.s .z)) | exact .h (.s (.s (.s .z))) | exact .h (.s (.s (.s (.s .z)))) | exact .h (.s (.s (.s (.s (.s .z))))) | exact .h (.s (.s (.s (.s (.s (.s .z)))))) | exact .h (.s (.s (.s (.s (.s (.s (.s .z))))))) | exact .h (.s (.s (.s (.s (.s (.s (.s (.s .z)))))))) | exact .x .z | exact .x (.s .z) | exact .x (.s (.s .z)) | exact .x (.s (.s (.s .z))) | exact .x (.s (.s (.s (.s .z)))) | exact .x (.s (.s (.s (.s (.s .z))))) | exact .x (.s (.s (.s (.s (.s (.s .z))))))) (by first | rfl | exact gC (by omega) | exact takeC (by omega) | exact takeC0 (by omega))) ?_
  refine q_pure rfl rfl (p_loadA ag_54 sz_54 rfl (by first | exact .h .z | exact .h (.s .z) | exact .h (.s (.s .z)) | exact .h (.s (.s (.s .z))) | exact .h (.s (.s (.s (.s .z)))) | exact .h (.s (.s (.s (.s (.s .z))))) | exact .h (.s (.s (.s (.s (.s (.s .z)))))) | exact .h (.s (.s (.s (.s (.s (.s (.s .z))))))) | exact .h (.s (.s (.s (.s (.s (.s (.s (.s .z)))))))) | exact .x .z | exact .x (.s .z) | exact .x (.s (.s .z)) | exact .x (.s (.s (.s .z))) | exact .x (.s (.s (.s (.s .z)))) | exact .x (.s (.s (.s (.s (.s .z))))) | exact .x (.s (.s (.s (.s (.s (.s .z))))))) (by first | rfl | exact gC (by omega) | exact takeC (by omega) | exact takeC0 (by omega))) ?_
  refine q_pure rfl rfl (p_move rfl) ?_
  refine q_pure rfl rfl (p_move rfl) ?_
  refine q_pure rfl rfl (p_move rfl) ?_
  refine q_dummy ?_
  refine q_pure rfl rfl (p_move rfl) ?_
  refine q_dummy ?_
  refine q_dummy ?_
  refine q_dummy ?_
  refine q_tree ?_
  refine tree_step ?_
  refine ta_go [(25, _), (26, _), (27, _)] [25, 26, 27] rfl ⟨rfl, ⟨rfl, ⟨rfl, trivial⟩⟩⟩ rfl (by kernel_rfl) (fun F => ?_) ?_
  ·
    refine r_buildSlice sl_47 sz_23 zr_23 rfl rfl rfl rfl rfl (by first | rfl) (fun b28 => ?_)
    refine tree_end rfl (by repeat (first | exact .z | apply Rems.s Rem.z | apply Rems.s (Rem.s Rem.z) | apply Rems.s (Rem.s (Rem.s Rem.z)) | apply Rems.s (Rem.s (Rem.s (Rem.s Rem.z))) | apply Rems.s (Rem.s (Rem.s (Rem.s (Rem.s Rem.z)))) | apply Rems.s (Rem.s (Rem.s (Rem.s (Rem.s (Rem.s Rem.z))))) | apply Rems.s (Rem.s (Rem.s (Rem.s (Rem.s (Rem.s (Rem.s Rem.z)))))) | apply Rems.s (Rem.s (Rem.s (Rem.s (Rem.s (Rem.s (Rem.s (Rem.s Rem.z))))))) | apply Rems.s (Rem.s (Rem.s (Rem.s (Rem.s (Rem.s (Rem.s (Rem.s (Rem.s Rem.z)))))))) | apply Rems.s (Rem.s (Rem.s (Rem.s (Rem.s (Rem.s (Rem.s (Rem.s (Rem.s (Rem.s Rem.z))))))))))) ?_
    refine tree_step ?_
    refine ta_done rfl ?_
    refine ta_go [(29, _)] [29] rfl ⟨rfl, trivial⟩ rfl (by kernel_rfl) (fun F => ?_) ?_
    ·
      refine r_append (xs := [.float .f32 g, .float .f32 lo, .float .f32 hi]) (junk := []) (ys := fl .f32 es) sl_47 sl_47 sz_23 zr_23 rfl by_23 rfl rfl rfl rfl rfl (.s (by first | exact .h .z | exact .h (.s .z) | exact .h (.s (.s .z)) | exact .h (.s (.s (.s .z))) | exact .h (.s (.s (.s (.s .z)))) | exact .h (.s (.s (.s (.s (.s .z))))) | exact .h (.s (.s (.s (.s (.s (.s .z)))))) | exact .h (.s (.s (.s (.s (.s (.s (.s .z))))))) | exact .h (.s (.s (.s (.s (.s (.s (.s (.s .z)))))))) | exact .x .z | exact .x (.s .z) | exact .x (.s (.s .z)) | exact .x (.s (.s (.s .z))) | exact .x (.s (.s (.s (.s .z)))) | exact .x (.s (.s (.s (.s (.s .z))))) | exact .x (.s (.s (.s (.s (.s (.s .z))))))) (takeF2 he)) (by first | exact .z | exact (.s .z) | exact (.s (.s .z)) | exact (.s (.s (.s .z))) | exact (.s (.s (.s (.s .z)))) | exact (.s (.s (.s (.s (.s .z))))) | exact (.s (.s (.s (.s (.s (.s .z)))))) | exact (.s (.s (.s (.s (.s (.s (.s .z))))))) | exact (.s (.s (.s (.s (.s (.s (.s (.s .z)))))))) | exact (.s (.s (.s (.s (.s (.s (.s (.s (.s .z)))))))))) rfl rfl (fl_one _ _) (by omega) (fun b30 cap30 junk30 u30 hj30 hc30 => ?_)
      refine tree_end rfl (by repeat (first | exact .z | apply Rems.s Rem.z | apply Rems.s (Rem.s Rem.z) | apply Rems.s (Rem.s (Rem.s Rem.z)) | apply Rems.s (Rem.s (Rem.s (Rem.s Rem.z))) | apply Rems.s (Rem.s (Rem.s (Rem.s (Rem.s Rem.z)))) | apply Rems.s (Rem.s (Rem.s (Rem.s (Rem.s (Rem.s Rem.z))))) | apply Rems.s (Rem.s (Rem.s (Rem.s (Rem.s (Rem.s (Rem.s Rem.z)))))) | apply Rems.s (Rem.s (Rem.s (Rem.s (Rem.s (Rem.s (Rem.s (Rem.s Rem.z))))))) | apply Rems.s (Rem.s (Rem.s (Rem.s (Rem.s (Rem.s (Rem.s (Rem.s (Rem.s Rem.z)))))))) | apply Rems.s (Rem.s (Rem.s (Rem.s (Rem.s (Rem.s (Rem.s (Rem.s (Rem.s (Rem.s Rem.z))))))))))) ?_
      refine tree_step ?_
      refine ta_done rfl ?_
      refine ta_done rfl ?_
      refine ta_go [(23, _), (24, _)] [23, 24] rfl ⟨rfl, ⟨rfl, trivial⟩⟩ rfl (by kernel_rfl) (fun F => ?_) ?_
      ·
        refine r_callV cb_83 rfl rfl rfl rfl rfl (crateCode n rs hl (by first | assumption | omega) m fs hf (by first | assumption | omega) _ _ _ _ _ _ _ (g :: lo :: hi :: es) (by simp; omega) (fun i hi2 => show (fl .f32 (g :: lo :: hi :: es) ++ junk30)[0 + i * 1]? = _ from gF (by simp; omega)) (by omega)) (by repeat (first | exact .z | refine .s (.h .z) ?_ | refine .s (.h (.s .z)) ?_ | refine .s (.h (.s (.s .z))) ?_ | refine .s (.h (.s (.s (.s .z)))) ?_ | refine .s (.h (.s (.s (.s (.s .z))))) ?_ | refine .s (.h (.s (.s (.s (.s (.s .z)))))) ?_ | refine .s (.h (.s (.s (.s (.s (.s (.s .z))))))) ?_ | refine .s (.h (.s (.s (.s (.s (.s (.s (.s .z)))))))) ?_ | refine .s (.h (.s (.s (.s (.s (.s (.s (.s (.s .z))))))))) ?_ | refine .s (.x .z) ?_ | refine .s (.x (.s .z)) ?_ | refine .s (.x (.s (.s .z))) ?_ | refine .s (.x (.s (.s (.s .z)))) ?_ | refine .s (.x (.s (.s (.s (.s .z))))) ?_ | refine .s (.x (.s (.s (.s (.s (.s .z)))))) ?_ | refine .s (.x (.s (.s (.s (.s (.s (.s .z))))))) ?_)) ?_
        refine tree_end rfl (by repeat (first | exact .z | apply Rems.s Rem.z | apply Rems.s (Rem.s Rem.z) | apply Rems.s (Rem.s (Rem.s Rem.z)) | apply Rems.s (Rem.s (Rem.s (Rem.s Rem.z))) | apply Rems.s (Rem.s (Rem.s (Rem.s (Rem.s Rem.z)))) | apply Rems.s (Rem.s (Rem.s (Rem.s (Rem.s (Rem.s Rem.z))))) | apply Rems.s (Rem.s (Rem.s (Rem.s (Rem.s (Rem.s (Rem.s Rem.z)))))) | apply Rems.s (Rem.s (Rem.s (Rem.s (Rem.s (Rem.s (Rem.s (Rem.s Rem.z))))))) | apply Rems.s (Rem.s (Rem.s (Rem.s (Rem.s (Rem.s (Rem.s (Rem.s (Rem.s Rem.z)))))))) | apply Rems.s (Rem.s (Rem.s (Rem.s (Rem.s (Rem.s (Rem.s (Rem.s (Rem.s (Rem.s Rem.z))))))))))) ?_
        refine tree_step ?_
        refine ta_done rfl ?_
        refine ta_done rfl ?_
        refine ta_done rfl ?_
        refine ta_go [] [] rfl trivial rfl (by kernel_rfl) (fun F => ?_) ?_
        ·
          refine r_assign rfl rfl rfl ?_
          refine tree_end rfl (by repeat (first | exact .z | apply Rems.s Rem.z | apply Rems.s (Rem.s Rem.z) | apply Rems.s (Rem.s (Rem.s Rem.z)) | apply Rems.s (Rem.s (Rem.s (Rem.s Rem.z))) | apply Rems.s (Rem.s (Rem.s (Rem.s (Rem.s Rem.z)))) | apply Rems.s (Rem.s (Rem.s (Rem.s (Rem.s (Rem.s Rem.z))))) | apply Rems.s (Rem.s (Rem.s (Rem.s (Rem.s (Rem.s (Rem.s Rem.z)))))) | apply Rems.s (Rem.s (Rem.s (Rem.s (Rem.s (Rem.s (Rem.s (Rem.s Rem.z))))))) | apply Rems.s (Rem.s (Rem.s (Rem.s (Rem.s (Rem.s (Rem.s (Rem.s (Rem.s Rem.z)))))))) | apply Rems.s (Rem.s (Rem.s (Rem.s (Rem.s (Rem.s (Rem.s (Rem.s (Rem.s (Rem.s Rem.z))))))))))) ?_
          refine tree_zero ?_
          refine K_tn ?_
          refine K_seq ?_
          refine K_block ?_
          refine K_seq ?_
          refine R_region ?_
          refine r_move rfl rfl rfl ?_
          refine s_neq rfl rfl rfl rfl (fun h34 => ?_) (fun h34 => ?_)
          · first
            | (exfalso; first | omega | (rw [bcCode_impl] at hno; simp_all; done) | (rw [bcCode_impl] at hno; simp_all; omega))
            |
              refine r_assign rfl rfl rfl ?_
              refine R_nil ?_
              refine K_tn ?_
              refine K_cond_t rfl ?_
              refine K_seq ?_
              refine R_region ?_
              refine r_move rfl rfl rfl ?_
              refine r_assign rfl rfl rfl ?_
              refine r_assign rfl rfl rfl ?_
              refine r_assign rfl rfl rfl ?_
              refine R_nil ?_
              refine K_tn ?_
              refine K_ret ?_
              refine K_br ?_
              refine K_tr ?_
              refine K_done (H' := []) rfl rfl (.s (.tmp rfl) (.s (.tmp rfl) (.s (.tmp rfl) .z))) (by repeat (first | exact .z | apply Rems.s Rem.z | apply Rems.s (Rem.s Rem.z) | apply Rems.s (Rem.s (Rem.s Rem.z)) | apply Rems.s (Rem.s (Rem.s (Rem.s Rem.z))) | apply Rems.s (Rem.s (Rem.s (Rem.s (Rem.s Rem.z)))) | apply Rems.s (Rem.s (Rem.s (Rem.s (Rem.s (Rem.s Rem.z))))) | apply Rems.s (Rem.s (Rem.s (Rem.s (Rem.s (Rem.s (Rem.s Rem.z)))))) | apply Rems.s (Rem.s (Rem.s (Rem.s (Rem.s (Rem.s (Rem.s (Rem.s Rem.z))))))) | apply Rems.s (Rem.s (Rem.s (Rem.s (Rem.s (Rem.s (Rem.s (Rem.s (Rem.s Rem.z)))))))) | apply Rems.s (Rem.s (Rem.s (Rem.s (Rem.s (Rem.s (Rem.s (Rem.s (Rem.s (Rem.s Rem.z))))))))))) ?_
              refine ⟨?_, rfl⟩
              first | (rw [bc_no hno]; rw [bcCode_impl]; simp_all [packV]; done; done) | (rw [bc_no hno]; rw [bcCode_impl]; simp_all [packV]; omega; done) | (rw [bc_no hno]; rw [bcCode_impl]; simp_all [packV]; (intro hh; omega); done)
          · first
            | (exfalso; first | omega | (rw [bcCode_impl] at hno; simp_all; done) | (rw [bcCode_impl] at hno; simp_all; omega))
            |
              refine r_assign rfl rfl rfl ?_
              refine R_nil ?_
              refine K_tn ?_
              refine K_cond_f rfl ?_
              refine K_seq ?_
              refine R_region ?_
              refine r_move rfl rfl rfl ?_
              refine r_move rfl rfl rfl ?_
              refine s_fcmp rfl rfl rfl rfl (fun _ _ => run_fgt) (fun h39 => ?_) (fun h39 => ?_)
              · first
                | (exfalso; first | omega | (rw [bcCode_impl] at hno; simp_all; done) | (rw [bcCode_impl] at hno; simp_all; omega))
                |
                  refine r_assign rfl rfl rfl ?_
                  refine R_nil ?_
                  refine K_tn ?_
                  refine K_cond_t rfl ?_
                  refine K_seq ?_
                  refine R_region ?_
                  refine r_assign rfl rfl rfl ?_
                  refine r_assign rfl rfl rfl ?_
                  refine r_assign rfl rfl rfl ?_
                  refine R_nil ?_
                  refine K_tn ?_
                  refine K_ret ?_
                  refine K_br ?_
                  refine K_tr ?_
                  refine K_done (H' := []) rfl rfl (.s (.tmp rfl) (.s (.tmp rfl) (.s (.tmp rfl) .z))) (by repeat (first | exact .z | apply Rems.s Rem.z | apply Rems.s (Rem.s Rem.z) | apply Rems.s (Rem.s (Rem.s Rem.z)) | apply Rems.s (Rem.s (Rem.s (Rem.s Rem.z))) | apply Rems.s (Rem.s (Rem.s (Rem.s (Rem.s Rem.z)))) | apply Rems.s (Rem.s (Rem.s (Rem.s (Rem.s (Rem.s Rem.z))))) | apply Rems.s (Rem.s (Rem.s (Rem.s (Rem.s (Rem.s (Rem.s Rem.z)))))) | apply Rems.s (Rem.s (Rem.s (Rem.s (Rem.s (Rem.s (Rem.s (Rem.s Rem.z))))))) | apply Rems.s (Rem.s (Rem.s (Rem.s (Rem.s (Rem.s (Rem.s (Rem.s (Rem.s Rem.z)))))))) | apply Rems.s (Rem.s (Rem.s (Rem.s (Rem.s (Rem.s (Rem.s (Rem.s (Rem.s (Rem.s Rem.z))))))))))) ?_
                  refine ⟨?_, rfl⟩
                  first | (rw [bc_no hno]; rw [bcCode_impl]; simp_all [packV]; done; done) | (rw [bc_no hno]; rw [bcCode_impl]; simp_all [packV]; omega; done) | (rw [bc_no hno]; rw [bcCode_impl]; simp_all [packV]; (intro hh; omega); done)
              · first
                | (exfalso; first | omega | (rw [bcCode_impl] at hno; simp_all; done) | (rw [bcCode_impl] at hno; simp_all; omega))
                |
                  refine r_assign rfl rfl rfl ?_
                  refine R_nil ?_
                  refine K_tn ?_
                  refine K_cond_f rfl ?_
                  refine K_seq ?_
                  refine R_region ?_
                  refine r_move rfl rfl rfl ?_
                  refine r_lenS sl_47 rfl rfl rfl ?_
                  refine s_gtr rfl rfl rfl rfl (fun h43 => ?_) (fun h43 => ?_)
                  · first
                    | (exfalso; first | omega | (rw [bcCode_impl] at hno; simp_all; done) | (rw [bcCode_impl] at hno; simp_all; omega))
                    |
                      refine r_assign rfl rfl rfl ?_
                      refine R_nil ?_
                      refine K_tn ?_
                      refine K_cond_t rfl ?_
                      refine K_seq ?_
                      refine R_region ?_
                      refine r_assign rfl rfl rfl ?_
                      refine r_assign rfl rfl rfl ?_
                      refine r_assign rfl rfl rfl ?_
                      refine R_nil ?_
                      refine K_tn ?_
                      refine K_ret ?_
                      refine K_br ?_
                      refine K_tr ?_
                      refine K_done (H' := []) rfl rfl (.s (.tmp rfl) (.s (.tmp rfl) (.s (.tmp rfl) .z))) (by repeat (first | exact .z | apply Rems.s Rem.z | apply Rems.s (Rem.s Rem.z) | apply Rems.s (Rem.s (Rem.s Rem.z)) | apply Rems.s (Rem.s (Rem.s (Rem.s Rem.z))) | apply Rems.s (Rem.s (Rem.s (Rem.s (Rem.s Rem.z)))) | apply Rems.s (Rem.s (Rem.s (Rem.s (Rem.s (Rem.s Rem.z))))) | apply Rems.s (Rem.s (Rem.s (Rem.s (Rem.s (Rem.s (Rem.s Rem.z)))))) | apply Rems.s (Rem.s (Rem.s (Rem.s (Rem.s (Rem.s (Rem.s (Rem.s Rem.z))))))) | apply Rems.s (Rem.s (Rem.s (Rem.s (Rem.s (Rem.s (Rem.s (Rem.s (Rem.s Rem.z)))))))) | apply Rems.s (Rem.s (Rem.s (Rem.s (Rem.s (Rem.s (Rem.s (Rem.s (Rem.s (Rem.s Rem.z))))))))))) ?_
                      refine ⟨?_, rfl⟩
                      first | (rw [bc_no hno]; rw [bcCode_impl]; simp_all [packV]; done; done) | (rw [bc_no hno]; rw [bcCode_impl]; simp_all [packV]; omega; done) | (rw [bc_no hno]; rw [bcCode_impl]; simp_all [packV]; (intro hh; omega); done)
                  · first
                    | (exfalso; first | omega | (rw [bcCode_impl] at hno; simp_all; done) | (rw [bcCode_impl] at hno; simp_all; omega))
                    |
                      refine r_assign rfl rfl rfl ?_
                      refine R_nil ?_
                      refine K_tn ?_
                      refine K_cond_f rfl ?_
                      refine K_seq ?_
                      refine R_region ?_
                      refine r_move rfl rfl rfl ?_
                      refine r_lenS sl_47 rfl rfl rfl ?_
                      refine s_eql rfl rfl rfl rfl (fun h47 => ?_) (fun h47 => ?_)
                      · first
                        | (exfalso; first | omega | (rw [bcCode_impl] at hno; simp_all; done) | (rw [bcCode_impl] at hno; simp_all; omega))
                        |
                          refine r_assign rfl rfl rfl ?_
                          refine R_nil ?_
                          refine K_tn ?_
                          refine K_cond_t rfl ?_
                          refine K_seq ?_
                          refine R_region ?_
                          refine r_assign rfl rfl rfl ?_
                          refine r_assign rfl rfl rfl ?_
                          refine r_assign rfl rfl rfl ?_
                          refine R_nil ?_
                          refine K_tn ?_
                          refine K_ret ?_
                          refine K_br ?_
                          refine K_tr ?_
                          refine K_done (H' := []) rfl rfl (.s (.tmp rfl) (.s (.tmp rfl) (.s (.tmp rfl) .z))) (by repeat (first | exact .z | apply Rems.s Rem.z | apply Rems.s (Rem.s Rem.z) | apply Rems.s (Rem.s (Rem.s Rem.z)) | apply Rems.s (Rem.s (Rem.s (Rem.s Rem.z))) | apply Rems.s (Rem.s (Rem.s (Rem.s (Rem.s Rem.z)))) | apply Rems.s (Rem.s (Rem.s (Rem.s (Rem.s (Rem.s Rem.z))))) | apply Rems.s (Rem.s (Rem.s (Rem.s (Rem.s (Rem.s (Rem.s Rem.z)))))) | apply Rems.s (Rem.s (Rem.s (Rem.s (Rem.s (Rem.s (Rem.s (Rem.s Rem.z))))))) | apply Rems.s (Rem.s (Rem.s (Rem.s (Rem.s (Rem.s (Rem.s (Rem.s (Rem.s Rem.z)))))))) | apply Rems.s (Rem.s (Rem.s (Rem.s (Rem.s (Rem.s (Rem.s (Rem.s (Rem.s (Rem.s Rem.z))))))))))) ?_
                          refine ⟨?_, rfl⟩
                          first | (rw [bc_no hno]; rw [bcCode_impl]; simp_all [packV]; done; done) | (rw [bc_no hno]; rw [bcCode_impl]; simp_all [packV]; omega; done) | (rw [bc_no hno]; rw [bcCode_impl]; simp_all [packV]; (intro hh; omega); done)
                      · first
                        | (exfalso; first | omega | (rw [bcCode_impl] at hno; simp_all; done) | (rw [bcCode_impl] at hno; simp_all; omega))
                        |
                          refine r_assign rfl rfl rfl ?_
                          refine R_nil ?_
                          refine K_tn ?_
                          refine K_cond_f rfl ?_
                          refine K_skip ?_
                          refine K_bn ?_
                          refine K_tn ?_
                          refine K_seq ?_
                          refine R_region ?_
                          refine r_assign rfl rfl rfl ?_
                          refine r_assign rfl rfl rfl ?_
                          refine R_nil ?_
                          refine K_tn ?_
                          refine K_seq ?_
                          refine K_seq ?_
                          refine R_region ?_
                          refine r_move rfl rfl rfl ?_
                          refine r_lenS sl_47 rfl rfl rfl ?_
                          refine r_move rfl rfl rfl ?_
                          refine R_nil ?_
                          refine K_tn ?_
                          refine K_block ?_
                          refine K_loop (fun (k : Nat) => k ≤ len) (fun k => [(1, .float .f32 g), (48, .slice (some ⟨b, 0, none⟩) len cap), (4, .float .f32 lo), (5, .float .f32 hi), (6, .pointer (some ⟨b6, 0, none⟩)), (8, .pointer (some ⟨b8, 0, none⟩)), (16, .int .i64 (bestB (fineC n rs g m fs lo hi es) k).1), (17, .int .i64 (bestB (fineC n rs g m fs lo hi es) k).2), (50, .int .i64 (k : Int)), (49, .int .i64 (len : Int))]) (fun _ => [(b6, .cells (.int .i8 (n : Int) :: fl .f32 rs).toArray 28 (0, 0)), (b8, .cells (.int .i8 (m : Int) :: fl .f32 fs).toArray 54 (0, 0))]) (fun k => len - k) 0 (by omega) (by repeat (first | exact trivial | refine ⟨rfl, ?_⟩)) (by repeat (first | exact .z | apply Rems.s Rem.z | apply Rems.s (Rem.s Rem.z) | apply Rems.s (Rem.s (Rem.s Rem.z)) | apply Rems.s (Rem.s (Rem.s (Rem.s Rem.z))) | apply Rems.s (Rem.s (Rem.s (Rem.s (Rem.s Rem.z)))) | apply Rems.s (Rem.s (Rem.s (Rem.s (Rem.s (Rem.s Rem.z))))) | apply Rems.s (Rem.s (Rem.s (Rem.s (Rem.s (Rem.s (Rem.s Rem.z)))))) | apply Rems.s (Rem.s (Rem.s (Rem.s (Rem.s (Rem.s (Rem.s (Rem.s Rem.z))))))) | apply Rems.s (Rem.s (Rem.s (Rem.s (Rem.s (Rem.s (Rem.s (Rem.s (Rem.s Rem.z)))))))) | apply Rems.s (Rem.s (Rem.s (Rem.s (Rem.s (Rem.s (Rem.s (Rem.s (Rem.s (Rem.s Rem.z))))))))))) (fun k hp => ?_)
                          refine K_seq ?_
                          refine R_region ?_
                          refine s_lss rfl rfl rfl rfl (fun h51 => ?_) (fun h51 => ?_)
                          · first
                            | (exfalso; first | omega | (rw [bcCode_impl] at hno; simp_all; done) | (rw [bcCode_impl] at hno; simp_all; omega))
                            |
                              refine R_nil ?_
                              refine K_tn ?_
                              refine K_seq ?_
                              refine K_cond_t rfl ?_
                              refine K_skip ?_
                              refine K_tn ?_
                              refine K_seq ?_
                              refine K_block ?_
                              refine K_seq ?_
                              refine R_region ?_
                              refine r_move rfl rfl rfl ?_
                              refine r_indexS sl_47 sz_23 rfl rfl rfl rfl (by omega) ?_
                              refine r_load ag_23 rfl rfl rfl (by first | exact .h .z | exact .h (.s .z) | exact .h (.s (.s .z)) | exact .h (.s (.s (.s .z))) | exact .h (.s (.s (.s (.s .z)))) | exact .h (.s (.s (.s (.s (.s .z))))) | exact .h (.s (.s (.s (.s (.s (.s .z)))))) | exact .h (.s (.s (.s (.s (.s (.s (.s .z))))))) | exact .h (.s (.s (.s (.s (.s (.s (.s (.s .z)))))))) | exact .x .z | exact .x (.s .z) | exact .x (.s (.s .z)) | exact .x (.s (.s (.s .z))) | exact .x (.s (.s (.s (.s .z)))) | exact .x (.s (.s (.s (.s (.s .z))))) | exact .x (.s (.s (.s (.s (.s (.s .z))))))) (by first | rfl | exact gC (by omega) | exact takeC (by omega) | exact takeC0 (by omega)) ?_
                              refine r_assign rfl rfl rfl ?_
                              refine r_assign rfl rfl rfl ?_
                              refine R_nil ?_
                              refine K_tn ?_
                              refine K_seq ?_
                              refine R_region ?_
                              refine r_loadA ag_28 sz_28 rfl rfl rfl (by first | exact .h .z | exact .h (.s .z) | exact .h (.s (.s .z)) | exact .h (.s (.s (.s .z))) | exact .h (.s (.s (.s (.s .z)))) | exact .h (.s (.s (.s (.s (.s .z))))) | exact .h (.s (.s (.s (.s (.s (.s .z)))))) | exact .h (.s (.s (.s (.s (.s (.s (.s .z))))))) | exact .h (.s (.s (.s (.s (.s (.s (.s (.s .z)))))))) | exact .x .z | exact .x (.s .z) | exact .x (.s (.s .z)) | exact .x (.s (.s (.s .z))) | exact .x (.s (.s (.s (.s .z)))) | exact .x (.s (.s (.s (.s (.s .z))))) | exact .x (.s (.s (.s (.s (.s (.s .z))))))) (by first | rfl | exact gC (by omega) | exact takeC (by omega) | exact takeC0 (by omega)) ?_
                              refine r_move rfl rfl rfl ?_
                              refine r_move rfl rfl rfl ?_
                              refine r_loadA ag_54 sz_54 rfl rfl rfl (by first | exact .h .z | exact .h (.s .z) | exact .h (.s (.s .z)) | exact .h (.s (.s (.s .z))) | exact .h (.s (.s (.s (.s .z)))) | exact .h (.s (.s (.s (.s (.s .z))))) | exact .h (.s (.s (.s (.s (.s (.s .z)))))) | exact .h (.s (.s (.s (.s (.s (.s (.s .z))))))) | exact .h (.s (.s (.s (.s (.s (.s (.s (.s .z)))))))) | exact .x .z | exact .x (.s .z) | exact .x (.s (.s .z)) | exact .x (.s (.s (.s .z))) | exact .x (.s (.s (.s (.s .z)))) | exact .x (.s (.s (.s (.s (.s .z))))) | exact .x (.s (.s (.s (.s (.s (.s .z))))))) (by first | rfl | exact gC (by omega) | exact takeC (by omega) | exact takeC0 (by omega)) ?_
                              refine r_callV cb_84 rfl rfl rfl rfl rfl (absurd rfl rfl) (by repeat (first | exact .z | refine .s (.h .z) ?_ | refine .s (.h (.s .z)) ?_ | refine .s (.h (.s (.s .z))) ?_ | refine .s (.h (.s (.s (.s .z)))) ?_ | refine .s (.h (.s (.s (.s (.s .z))))) ?_ | refine .s (.h (.s (.s (.s (.s (.s .z)))))) ?_ | refine .s (.h (.s (.s (.s (.s (.s (.s .z))))))) ?_ | refine .s (.h (.s (.s (.s (.s (.s (.s (.s .z)))))))) ?_ | refine .s (.h (.s (.s (.s (.s (.s (.s (.s (.s .z))))))))) ?_ | refine .s (.x .z) ?_ | refine .s (.x (.s .z)) ?_ | refine .s (.x (.s (.s .z))) ?_ | refine .s (.x (.s (.s (.s .z)))) ?_ | refine .s (.x (.s (.s (.s (.s .z))))) ?_ | refine .s (.x (.s (.s (.s (.s (.s .z)))))) ?_ | refine .s (.x (.s (.s (.s (.s (.s (.s .z))))))) ?_)) ?_
                              refine r_move rfl rfl rfl ?_
                              refine r_move rfl rfl rfl ?_
                              refine r_callV cb_86 rfl rfl rfl rfl rfl (absurd rfl rfl) (by repeat (first | exact .z | refine .s (.h .z) ?_ | refine .s (.h (.s .z)) ?_ | refine .s (.h (.s (.s .z))) ?_ | refine .s (.h (.s (.s (.s .z)))) ?_ | refine .s (.h (.s (.s (.s (.s .z))))) ?_ | refine .s (.h (.s (.s (.s (.s (.s .z)))))) ?_ | refine .s (.h (.s (.s (.s (.s (.s (.s .z))))))) ?_ | refine .s (.h (.s (.s (.s (.s (.s (.s (.s .z)))))))) ?_ | refine .s (.h (.s (.s (.s (.s (.s (.s (.s (.s .z))))))))) ?_ | refine .s (.x .z) ?_ | refine .s (.x (.s .z)) ?_ | refine .s (.x (.s (.s .z))) ?_ | refine .s (.x (.s (.s (.s .z)))) ?_ | refine .s (.x (.s (.s (.s (.s .z))))) ?_ | refine .s (.x (.s (.s (.s (.s (.s .z)))))) ?_ | refine .s (.x (.s (.s (.s (.s (.s (.s .z))))))) ?_)) ?_
                              refine r_move rfl rfl rfl ?_
                              refine r_extract rfl rfl rfl rfl ?_
                              refine r_extract rfl rfl rfl rfl ?_
                              refine r_assign rfl rfl rfl ?_
                              refine r_assign rfl rfl rfl ?_
                              refine R_nil ?_
                              refine K_tn ?_
                              refine K_seq ?_
                              refine R_region ?_
                              refine r_fieldAddr fd_54_0 rfl rfl rfl ?_
                              refine r_load ag_22 rfl rfl rfl (by first | exact .h .z | exact .h (.s .z) | exact .h (.s (.s .z)) | exact .h (.s (.s (.s .z))) | exact .h (.s (.s (.s (.s .z)))) | exact .h (.s (.s (.s (.s (.s .z))))) | exact .h (.s (.s (.s (.s (.s (.s .z)))))) | exact .h (.s (.s (.s (.s (.s (.s (.s .z))))))) | exact .h (.s (.s (.s (.s (.s (.s (.s (.s .z)))))))) | exact .x .z | exact .x (.s .z) | exact .x (.s (.s .z)) | exact .x (.s (.s (.s .z))) | exact .x (.s (.s (.s (.s .z)))) | exact .x (.s (.s (.s (.s (.s .z))))) | exact .x (.s (.s (.s (.s (.s (.s .z))))))) (by first | rfl | exact gC (by omega) | exact takeC (by omega) | exact takeC0 (by omega)) ?_
                              refine r_convI ⟨_, un_22⟩ un_3 rfl rfl rfl (i64K (by omega) (by omega)) ?_
                              refine r_move rfl rfl rfl ?_
                              refine r_lenS sl_60 rfl rfl rfl ?_
                              first | refine r_subN rfl rfl rfl rfl (i64K (by omega) (by omega)) (by omega) ?_ | refine r_sub rfl rfl rfl rfl (i64K (by omega) (by omega)) ?_
                              refine r_move rfl rfl rfl ?_
                              refine r_lenS sl_60 rfl rfl rfl ?_
                              first | refine r_subN rfl rfl rfl rfl (i64K (by omega) (by omega)) (by omega) ?_ | refine r_sub rfl rfl rfl rfl (i64K (by omega) (by omega)) ?_
                              refine r_assign rfl rfl rfl ?_
                              refine R_nil ?_
                              refine K_tn ?_
                              refine K_seq ?_
                              refine R_region ?_
                              refine r_move rfl rfl rfl ?_
                              refine r_move rfl rfl rfl ?_
                              refine s_gtr rfl rfl rfl rfl (fun h77 => ?_) (fun h77 => ?_)
                              · first
                                | (exfalso; first | omega | (rw [bcCode_impl] at hno; simp_all; done) | (rw [bcCode_impl] at hno; simp_all; omega))
                                |
                                  refine R_nil ?_
                                  refine K_tn ?_
                                  refine K_cond_t rfl ?_
                                  refine R_region ?_
                                  refine r_move rfl rfl rfl ?_
                                  refine r_move rfl rfl rfl ?_
                                  refine r_assign rfl rfl rfl ?_
                                  refine r_assign rfl rfl rfl ?_
                                  refine R_nil ?_
                                  refine K_bn ?_
                                  refine K_tn ?_
                                  refine R_region ?_
                                  first | refine r_addN rfl rfl rfl rfl (i64K (by omega) (by omega)) ?_ | refine r_add rfl rfl rfl rfl (i64K (by omega) (by omega)) ?_
                                  refine r_move rfl rfl rfl ?_
                                  refine R_nil ?_
                                  refine K_tn ?_
                                  exact K_again (k + 1) (by omega) (by omega) (by repeat (first | exact trivial | refine ⟨rfl, ?_⟩ | refine ⟨congrArg (fun t : Int × Int => some (Value.int .i64 t.1)) (bestB_t (sc := (fineC n rs g m fs lo hi es)) h77).symm, ?_⟩ | refine ⟨congrArg (fun t : Int × Int => some (Value.int .i64 t.1)) (bestB_f (sc := (fineC n rs g m fs lo hi es)) h77).symm, ?_⟩ | refine ⟨congrArg (fun t : Int × Int => some (Value.int .i64 t.2)) (bestB_t (sc := (fineC n rs g m fs lo hi es)) h77).symm, ?_⟩ | refine ⟨congrArg (fun t : Int × Int => some (Value.int .i64 t.2)) (bestB_f (sc := (fineC n rs g m fs lo hi es)) h77).symm, ?_⟩)) (by repeat (first | exact .z | apply Rems.s Rem.z | apply Rems.s (Rem.s Rem.z) | apply Rems.s (Rem.s (Rem.s Rem.z)) | apply Rems.s (Rem.s (Rem.s (Rem.s Rem.z))) | apply Rems.s (Rem.s (Rem.s (Rem.s (Rem.s Rem.z)))) | apply Rems.s (Rem.s (Rem.s (Rem.s (Rem.s (Rem.s Rem.z))))) | apply Rems.s (Rem.s (Rem.s (Rem.s (Rem.s (Rem.s (Rem.s Rem.z)))))) | apply Rems.s (Rem.s (Rem.s (Rem.s (Rem.s (Rem.s (Rem.s (Rem.s Rem.z))))))) | apply Rems.s (Rem.s (Rem.s (Rem.s (Rem.s (Rem.s (Rem.s (Rem.s (Rem.s Rem.z)))))))) | apply Rems.s (Rem.s (Rem.s (Rem.s (Rem.s (Rem.s (Rem.s (Rem.s (Rem.s (Rem.s Rem.z)))))))))))
                              · first
                                | (exfalso; first | omega | (rw [bcCode_impl] at hno; simp_all; done) | (rw [bcCode_impl] at hno; simp_all; omega))
                                |
                                  refine R_nil ?_
                                  refine K_tn ?_
                                  refine K_cond_f rfl ?_
                                  refine K_skip ?_
                                  refine K_bn ?_
                                  refine K_tn ?_
                                  refine R_region ?_
                                  first | refine r_addN rfl rfl rfl rfl (i64K (by omega) (by omega)) ?_ | refine r_add rfl rfl rfl rfl (i64K (by omega) (by omega)) ?_
                                  refine r_move rfl rfl rfl ?_
                                  refine R_nil ?_
                                  refine K_tn ?_
                                  exact K_again (k + 1) (by omega) (by omega) (by repeat (first | exact trivial | refine ⟨rfl, ?_⟩ | refine ⟨congrArg (fun t : Int × Int => some (Value.int .i64 t.1)) (bestB_t (sc := (fineC n rs g m fs lo hi es)) h77).symm, ?_⟩ | refine ⟨congrArg (fun t : Int × Int => some (Value.int .i64 t.1)) (bestB_f (sc := (fineC n rs g m fs lo hi es)) h77).symm, ?_⟩ | refine ⟨congrArg (fun t : Int × Int => some (Value.int .i64 t.2)) (bestB_t (sc := (fineC n rs g m fs lo hi es)) h77).symm, ?_⟩ | refine ⟨congrArg (fun t : Int × Int => some (Value.int .i64 t.2)) (bestB_f (sc := (fineC n rs g m fs lo hi es)) h77).symm, ?_⟩)) (by repeat (first | exact .z | apply Rems.s Rem.z | apply Rems.s (Rem.s Rem.z) | apply Rems.s (Rem.s (Rem.s Rem.z)) | apply Rems.s (Rem.s (Rem.s (Rem.s Rem.z))) | apply Rems.s (Rem.s (Rem.s (Rem.s (Rem.s Rem.z)))) | apply Rems.s (Rem.s (Rem.s (Rem.s (Rem.s (Rem.s Rem.z))))) | apply Rems.s (Rem.s (Rem.s (Rem.s (Rem.s (Rem.s (Rem.s Rem.z)))))) | apply Rems.s (Rem.s (Rem.s (Rem.s (Rem.s (Rem.s (Rem.s (Rem.s Rem.z))))))) | apply Rems.s (Rem.s (Rem.s (Rem.s (Rem.s (Rem.s (Rem.s (Rem.s (Rem.s Rem.z)))))))) | apply Rems.s (Rem.s (Rem.s (Rem.s (Rem.s (Rem.s (Rem.s (Rem.s (Rem.s (Rem.s Rem.z)))))))))))
                          · first
                            | (exfalso; first | omega | (rw [bcCode_impl] at hno; simp_all; done) | (rw [bcCode_impl] at hno; simp_all; omega))
                            |
                              refine R_nil ?_
                              refine K_tn ?_
                              refine K_seq ?_
                              refine K_cond_f rfl ?_
                              refine K_exit ?_
                              refine K_te ?_
                              refine K_te ?_
                              refine K_be ?_
                              refine K_tn ?_
                              refine K_seq ?_
                              refine R_region ?_
                              refine r_move rfl rfl rfl ?_
                              refine r_move rfl rfl rfl ?_
                              refine r_assign rfl rfl rfl ?_
                              refine r_assign rfl rfl rfl ?_
                              refine r_assign rfl rfl rfl ?_
                              refine R_nil ?_
                              refine K_tn ?_
                              refine K_ret ?_
                              refine K_done (H' := []) rfl rfl (.s (.tmp rfl) (.s (.tmp rfl) (.s (.tmp rfl) .z))) (by repeat (first | exact .z | apply Rems.s Rem.z | apply Rems.s (Rem.s Rem.z) | apply Rems.s (Rem.s (Rem.s Rem.z)) | apply Rems.s (Rem.s (Rem.s (Rem.s Rem.z))) | apply Rems.s (Rem.s (Rem.s (Rem.s (Rem.s Rem.z)))) | apply Rems.s (Rem.s (Rem.s (Rem.s (Rem.s (Rem.s Rem.z))))) | apply Rems.s (Rem.s (Rem.s (Rem.s (Rem.s (Rem.s (Rem.s Rem.z)))))) | apply Rems.s (Rem.s (Rem.s (Rem.s (Rem.s (Rem.s (Rem.s (Rem.s Rem.z))))))) | apply Rems.s (Rem.s (Rem.s (Rem.s (Rem.s (Rem.s (Rem.s (Rem.s (Rem.s Rem.z)))))))) | apply Rems.s (Rem.s (Rem.s (Rem.s (Rem.s (Rem.s (Rem.s (Rem.s (Rem.s (Rem.s Rem.z))))))))))) ?_
                              refine ⟨?_, rfl⟩
                              first | (rw [bc_no hno]; rw [bcCode_impl]; simp_all [packV]; done; done) | (rw [bc_no hno]; rw [bcCode_impl]; simp_all [packV]; omega; done) | (rw [bc_no hno]; rw [bcCode_impl]; simp_all [packV]; (intro hh; omega); done)
        exact ta_nil
      refine ta_wait (by kernel_rfl) ?_
      exact ta_nil
    refine ta_wait (by kernel_rfl) ?_
    refine ta_wait (by kernel_rfl) ?_
    exact ta_nil
  refine ta_wait (by kernel_rfl) ?_
  refine ta_wait (by kernel_rfl) ?_
  refine ta_wait (by kernel_rfl) ?_
  exact ta_nil

theorem spec_BC (n : Int) (rs : List Nat) (hl : rs.length = 16) (hn : -128 ≤ n ∧ n ≤ 127) (m : Int) (fs : List Nat) (hf : fs.length = 16) (hm : -128 ≤ m ∧ m ≤ 127) (g lo hi : Nat) (b len cap : Nat) (junk : List Value) (u : TypeId) (es : List Nat) (he : es.length = len) (hcap : len + junk.length = cap) (hb : len ≤ 1048576) : SpecV Try.prog 54 [.agg (.int .i8 n :: fl .f32 rs).toArray, .float .f32 g, .agg (.int .i8 m :: fl .f32 fs).toArray, .slice (some ⟨b, 0, none⟩) len cap, .float .f32 lo, .float .f32 hi] [(b, .cells (fl .f32 es ++ junk).toArray u (0, 0))] (packV [.int .i64 (bcRes n rs g m fs es lo hi).1, .int .i64 (bcRes n rs g m fs es lo hi).2, .int .i64 (bcCode n rs g m fs es lo hi)]) := by
  by_cases h : bcCode n rs g m fs es lo hi = 0
  · obtain ⟨hlh, hvm, hv, _⟩ := bc_all (bc_ok h).1
    have h0 := vCrate_in hvm
    have h1 := vCrate_in hv
    obtain ⟨n0, rfl⟩ := Int.eq_ofNat_of_zero_le h1.1
    obtain ⟨m0, rfl⟩ := Int.eq_ofNat_of_zero_le h0.1
    exact spec_BC_ok n0 rs hl (by omega) m0 fs hf (by omega) g lo hi b len cap junk u es he hcap hb h
  · exact spec_BC_no n rs hl hn m fs hf hm g lo hi b len cap junk u es he hcap hb h

theorem impl_BC (n : Int) (rs : List Nat) (hl : rs.length = 16) (hn : -128 ≤ n ∧ n ≤ 127) (m : Int) (fs : List Nat) (hf : fs.length = 16) (hm : -128 ≤ m ∧ m ≤ 127) (g lo hi : Nat) (b len cap : Nat) (junk : List Value) (u : TypeId) (es : List Nat) (he : es.length = len) (hcap : len + junk.length = cap) (hb : len ≤ 1048576) : SpecV Try.prog 56 [.agg (.int .i8 n :: fl .f32 rs).toArray, .float .f32 g, .agg (.int .i8 m :: fl .f32 fs).toArray, .slice (some ⟨b, 0, none⟩) len cap, .float .f32 lo, .float .f32 hi] [(b, .cells (fl .f32 es ++ junk).toArray u (0, 0))] (packV [.int .i64 (bcRes n rs g m fs es lo hi).1, .int .i64 (bcRes n rs g m fs es lo hi).2, .int .i64 (bcCode n rs g m fs es lo hi)]) := by
  by_cases h : bcCode n rs g m fs es lo hi = 0
  · obtain ⟨hlh, hvm, hv, _⟩ := bc_all (bc_ok h).1
    have h0 := vCrate_in hvm
    have h1 := vCrate_in hv
    obtain ⟨n0, rfl⟩ := Int.eq_ofNat_of_zero_le h1.1
    obtain ⟨m0, rfl⟩ := Int.eq_ofNat_of_zero_le h0.1
    exact impl_BC_ok n0 rs hl (by omega) m0 fs hf (by omega) g lo hi b len cap junk u es he hcap hb h
  · exact impl_BC_no n rs hl hn m fs hf hm g lo hi b len cap junk u es he hcap hb h

end Go.Proofs.Ytpanpkmheeenjaa
