/- Walks of the functions of the program and of the reference, and what each of them returns. -/
import Derived.Test.YtpanpkmheeenjaaWC
set_option linter.unusedVariables false
set_option linter.unusedSimpArgs false
namespace Go.Proofs.Ytpanpkmheeenjaa
open Go.Sl
set_option maxRecDepth 20000 in
theorem spec_WarmestDay_ok (n : Nat) (rs : List Nat) (hl : rs.length = 16) (hn : n ≤ 16) (hv : vCrate n rs = true) (hz : n ≠ 0) : SpecV Try.prog 25 [.agg (.int .i8 (n : Int) :: fl .f32 rs).toArray] [] (packV [.int .i64 (warmDay n rs : Int), .float .f32 (warmth n rs), .int .i64 (warmCode n rs)]) := by
  refine spec_of Try.func25 rfl Try.ntmps25 rfl (fun w0 => ?_)
  have hn2 : -128 ≤ (n : Int) ∧ (n : Int) ≤ 127 := by omega
  refine K_seq ?_
  refine R_region ?_
  refine r_box rfl rfl rfl rfl (fun b1 => ?_)
  refine r_assign rfl rfl rfl ?_
  refine r_assign rfl rfl rfl ?_
  refine r_assign rfl rfl rfl ?_
  refine R_nil ?_
  refine K_tn ?_
  refine K_seq ?_
  refine K_seq ?_
  refine R_region ?_
  refine s_callV cb_60 rfl rfl rfl rfl rfl (l04Ok _ _ _ (by assumption) (by first | assumption | omega) _ _) (by repeat (first | exact .z | refine .s (.h .z) ?_ | refine .s (.h (.s .z)) ?_ | refine .s (.h (.s (.s .z))) ?_ | refine .s (.h (.s (.s (.s .z)))) ?_ | refine .s (.h (.s (.s (.s (.s .z))))) ?_ | refine .s (.h (.s (.s (.s (.s (.s .z)))))) ?_ | refine .s (.h (.s (.s (.s (.s (.s (.s .z))))))) ?_ | refine .s (.h (.s (.s (.s (.s (.s (.s (.s .z)))))))) ?_ | refine .s (.h (.s (.s (.s (.s (.s (.s (.s (.s .z))))))))) ?_ | refine .s (.x .z) ?_ | refine .s (.x (.s .z)) ?_ | refine .s (.x (.s (.s .z))) ?_ | refine .s (.x (.s (.s (.s .z)))) ?_ | refine .s (.x (.s (.s (.s (.s .z))))) ?_ | refine .s (.x (.s (.s (.s (.s (.s .z)))))) ?_ | refine .s (.x (.s (.s (.s (.s (.s (.s .z))))))) ?_)) (fun h7 => ?_) (fun h7 => ?_)
  · first
    | (exfalso; first | (simp_all; done) | omega)
    |
      refine r_not rfl rfl rfl ?_
      refine R_nil ?_
      refine K_tn ?_
      refine K_cond_f rfl ?_
      refine K_skip ?_
      refine K_tn ?_
      refine K_seq ?_
      refine K_seq ?_
      refine R_region ?_
      refine r_fieldAddr fd_28_0 rfl rfl rfl ?_
      refine r_load ag_22 rfl rfl rfl (by first | exact .h .z | exact .h (.s .z) | exact .h (.s (.s .z)) | exact .h (.s (.s (.s .z))) | exact .h (.s (.s (.s (.s .z)))) | exact .h (.s (.s (.s (.s (.s .z))))) | exact .h (.s (.s (.s (.s (.s (.s .z)))))) | exact .h (.s (.s (.s (.s (.s (.s (.s .z))))))) | exact .h (.s (.s (.s (.s (.s (.s (.s (.s .z)))))))) | exact .x .z | exact .x (.s .z) | exact .x (.s (.s .z)) | exact .x (.s (.s (.s .z))) | exact .x (.s (.s (.s (.s .z)))) | exact .x (.s (.s (.s (.s (.s .z))))) | exact .x (.s (.s (.s (.s (.s (.s .z))))))) (by first | rfl | exact gC (by first | omega | (have h_r := ripestTo_lt rs k; omega) | (have h_r := ripestTo_lt rs n; omega)) | exact takeC (by omega) | exact takeC0 (by omega)) ?_
      refine s_eql rfl rfl rfl rfl (fun h11 => ?_) (fun h11 => ?_)
      · first
        | (exfalso; first | (simp_all; done) | omega)
        |
          refine R_nil ?_
          refine K_tn ?_
          refine K_cond_t rfl ?_
          refine K_seq ?_
          refine R_region ?_
          refine r_assign rfl rfl rfl ?_
          refine r_assign rfl rfl rfl ?_
          refine r_assign rfl rfl rfl ?_
          refine R_nil ?_
          refine K_tn ?_
          refine K_ret ?_
          refine K_tr ?_
          refine K_done (H' := []) rfl rfl (.s (.tmp rfl) (.s (.tmp rfl) (.s (.tmp rfl) .z))) (by repeat (first | exact .z | apply Rems.s Rem.z | apply Rems.s (Rem.s Rem.z) | apply Rems.s (Rem.s (Rem.s Rem.z)) | apply Rems.s (Rem.s (Rem.s (Rem.s Rem.z))) | apply Rems.s (Rem.s (Rem.s (Rem.s (Rem.s Rem.z)))) | apply Rems.s (Rem.s (Rem.s (Rem.s (Rem.s (Rem.s Rem.z))))) | apply Rems.s (Rem.s (Rem.s (Rem.s (Rem.s (Rem.s (Rem.s Rem.z)))))) | apply Rems.s (Rem.s (Rem.s (Rem.s (Rem.s (Rem.s (Rem.s (Rem.s Rem.z))))))) | apply Rems.s (Rem.s (Rem.s (Rem.s (Rem.s (Rem.s (Rem.s (Rem.s (Rem.s Rem.z)))))))) | apply Rems.s (Rem.s (Rem.s (Rem.s (Rem.s (Rem.s (Rem.s (Rem.s (Rem.s (Rem.s Rem.z))))))))))) ?_
          refine ⟨?_, rfl⟩
          unfold warmDay warmth warmCode; simp_all [packV, -List.getD_eq_getElem?_getD]
      · first
        | (exfalso; first | (simp_all; done) | omega)
        |
          refine R_nil ?_
          refine K_tn ?_
          refine K_cond_f rfl ?_
          refine K_skip ?_
          refine K_tn ?_
          refine K_seq ?_
          refine R_region ?_
          refine r_assign rfl rfl rfl ?_
          refine R_nil ?_
          refine K_tn ?_
          refine K_seq ?_
          refine K_seq ?_
          refine R_region ?_
          refine r_assign rfl rfl rfl ?_
          refine R_nil ?_
          refine K_tn ?_
          refine K_block ?_
          refine K_loop (fun (k : Nat) => k ≤ n ∧ 1 ≤ k) (fun k => [(1, .pointer (some ⟨b1, 0, none⟩)), (5, .int .i64 (ripestTo rs k : Int)), (6, .int .i64 (k : Int))]) (fun _ => [(b1, .cells (.int .i8 (n : Int) :: fl .f32 rs).toArray 28 (0, 0))]) (fun k => n - k) 1 (by simp_all; omega) (by repeat (first | exact trivial | refine ⟨rfl, ?_⟩ | refine ⟨(by rw [ripestTo_one]; rfl), ?_⟩)) (by repeat (first | exact .z | apply Rems.s Rem.z | apply Rems.s (Rem.s Rem.z) | apply Rems.s (Rem.s (Rem.s Rem.z)) | apply Rems.s (Rem.s (Rem.s (Rem.s Rem.z))) | apply Rems.s (Rem.s (Rem.s (Rem.s (Rem.s Rem.z)))) | apply Rems.s (Rem.s (Rem.s (Rem.s (Rem.s (Rem.s Rem.z))))) | apply Rems.s (Rem.s (Rem.s (Rem.s (Rem.s (Rem.s (Rem.s Rem.z)))))) | apply Rems.s (Rem.s (Rem.s (Rem.s (Rem.s (Rem.s (Rem.s (Rem.s Rem.z))))))) | apply Rems.s (Rem.s (Rem.s (Rem.s (Rem.s (Rem.s (Rem.s (Rem.s (Rem.s Rem.z)))))))) | apply Rems.s (Rem.s (Rem.s (Rem.s (Rem.s (Rem.s (Rem.s (Rem.s (Rem.s (Rem.s Rem.z))))))))))) (fun k hp => ?_)
          refine K_seq ?_
          refine K_seq ?_
          refine R_region ?_
          refine r_move rfl rfl rfl ?_
          refine r_fieldAddr fd_28_0 rfl rfl rfl ?_
          refine r_load ag_22 rfl rfl rfl (by first | exact .h .z | exact .h (.s .z) | exact .h (.s (.s .z)) | exact .h (.s (.s (.s .z))) | exact .h (.s (.s (.s (.s .z)))) | exact .h (.s (.s (.s (.s (.s .z))))) | exact .h (.s (.s (.s (.s (.s (.s .z)))))) | exact .h (.s (.s (.s (.s (.s (.s (.s .z))))))) | exact .h (.s (.s (.s (.s (.s (.s (.s (.s .z)))))))) | exact .x .z | exact .x (.s .z) | exact .x (.s (.s .z)) | exact .x (.s (.s (.s .z))) | exact .x (.s (.s (.s (.s .z)))) | exact .x (.s (.s (.s (.s (.s .z))))) | exact .x (.s (.s (.s (.s (.s (.s .z))))))) (by first | rfl | exact gC (by first | omega | (have h_r := ripestTo_lt rs k; omega) | (have h_r := ripestTo_lt rs n; omega)) | exact takeC (by omega) | exact takeC0 (by omega)) ?_
          refine r_convI ⟨_, un_22⟩ un_3 rfl rfl rfl (i64K (by omega) (by omega)) ?_
          refine s_lss rfl rfl rfl rfl (fun h16 => ?_) (fun h16 => ?_)
          · first
            | (exfalso; first | (simp_all; done) | omega)
            |
              refine R_nil ?_
              refine K_tn ?_
              refine K_cond_t rfl ?_
              refine K_skip ?_
              refine K_tn ?_
              refine K_seq ?_
              refine K_block ?_
              refine K_seq ?_
              refine R_drawAll mixed (by kernel_rfl) ?_
              refine q_pure rfl rfl (p_move rfl) ?_
              refine q_pure rfl rfl (p_fieldAddr fd_28_1 rfl) ?_
              refine q_pure rfl rfl (p_indexA ar_24 sz_23 rfl rfl (by first | omega | (have h_r := ripestTo_lt rs k; omega) | (have h_r := ripestTo_lt rs n; omega))) ?_
              refine q_pure rfl rfl (p_load ag_23 rfl (by first | exact .h .z | exact .h (.s .z) | exact .h (.s (.s .z)) | exact .h (.s (.s (.s .z))) | exact .h (.s (.s (.s (.s .z)))) | exact .h (.s (.s (.s (.s (.s .z))))) | exact .h (.s (.s (.s (.s (.s (.s .z)))))) | exact .h (.s (.s (.s (.s (.s (.s (.s .z))))))) | exact .h (.s (.s (.s (.s (.s (.s (.s (.s .z)))))))) | exact .x .z | exact .x (.s .z) | exact .x (.s (.s .z)) | exact .x (.s (.s (.s .z))) | exact .x (.s (.s (.s (.s .z)))) | exact .x (.s (.s (.s (.s (.s .z))))) | exact .x (.s (.s (.s (.s (.s (.s .z))))))) (by first | rfl | exact gC (by first | omega | (have h_r := ripestTo_lt rs k; omega) | (have h_r := ripestTo_lt rs n; omega)) | exact takeC (by omega) | exact takeC0 (by omega))) ?_
              refine q_pure rfl rfl (p_move rfl) ?_
              refine q_pure rfl rfl (p_fieldAddr fd_28_1 rfl) ?_
              refine q_pure rfl rfl (p_indexA ar_24 sz_23 rfl rfl (by first | omega | (have h_r := ripestTo_lt rs k; omega) | (have h_r := ripestTo_lt rs n; omega))) ?_
              refine q_pure rfl rfl (p_load ag_23 rfl (by first | exact .h .z | exact .h (.s .z) | exact .h (.s (.s .z)) | exact .h (.s (.s (.s .z))) | exact .h (.s (.s (.s (.s .z)))) | exact .h (.s (.s (.s (.s (.s .z))))) | exact .h (.s (.s (.s (.s (.s (.s .z)))))) | exact .h (.s (.s (.s (.s (.s (.s (.s .z))))))) | exact .h (.s (.s (.s (.s (.s (.s (.s (.s .z)))))))) | exact .x .z | exact .x (.s .z) | exact .x (.s (.s .z)) | exact .x (.s (.s (.s .z))) | exact .x (.s (.s (.s (.s .z)))) | exact .x (.s (.s (.s (.s (.s .z))))) | exact .x (.s (.s (.s (.s (.s (.s .z))))))) (by first | rfl | exact gC (by first | omega | (have h_r := ripestTo_lt rs k; omega) | (have h_r := ripestTo_lt rs n; omega)) | exact takeC (by omega) | exact takeC0 (by omega))) ?_
              refine q_pure rfl rfl (p_tfcmp rfl rfl (fun _ _ => run_fgt)) ?_
              refine KQ_split (d := 27) rfl (fun h27 => ?_) (fun h27 => ?_)
              · first
                | (exfalso; first | (simp_all; done) | omega)
                |
                  refine q_nil ?_
                  refine K_tn ?_
                  refine K_cond_t rfl ?_
                  refine R_region ?_
                  refine r_move rfl rfl rfl ?_
                  refine r_assign rfl rfl rfl ?_
                  refine R_nil ?_
                  refine K_bn ?_
                  refine K_tn ?_
                  refine R_region ?_
                  refine r_move rfl rfl rfl ?_
                  first | refine r_addN rfl rfl rfl rfl (i64K (by omega) (by omega)) ?_ | refine r_add rfl rfl rfl rfl (i64K (by omega) (by omega)) ?_
                  refine r_assign rfl rfl rfl ?_
                  refine R_nil ?_
                  refine K_tn ?_
                  first | have hst := ripestTo_t (by assumption) | have hst := ripestTo_f (by assumption)
                  exact K_again (k + 1) (by omega) (by omega) (by repeat (first | exact trivial | refine ⟨rfl, ?_⟩ | refine ⟨(by rw [← hst]; rfl), ?_⟩)) (by repeat (first | exact .z | apply Rems.s Rem.z | apply Rems.s (Rem.s Rem.z) | apply Rems.s (Rem.s (Rem.s Rem.z)) | apply Rems.s (Rem.s (Rem.s (Rem.s Rem.z))) | apply Rems.s (Rem.s (Rem.s (Rem.s (Rem.s Rem.z)))) | apply Rems.s (Rem.s (Rem.s (Rem.s (Rem.s (Rem.s Rem.z))))) | apply Rems.s (Rem.s (Rem.s (Rem.s (Rem.s (Rem.s (Rem.s Rem.z)))))) | apply Rems.s (Rem.s (Rem.s (Rem.s (Rem.s (Rem.s (Rem.s (Rem.s Rem.z))))))) | apply Rems.s (Rem.s (Rem.s (Rem.s (Rem.s (Rem.s (Rem.s (Rem.s (Rem.s Rem.z)))))))) | apply Rems.s (Rem.s (Rem.s (Rem.s (Rem.s (Rem.s (Rem.s (Rem.s (Rem.s (Rem.s Rem.z)))))))))))
              · first
                | (exfalso; first | (simp_all; done) | omega)
                |
                  refine q_nil ?_
                  refine K_tn ?_
                  refine K_cond_f rfl ?_
                  refine K_skip ?_
                  refine K_bn ?_
                  refine K_tn ?_
                  refine R_region ?_
                  refine r_move rfl rfl rfl ?_
                  first | refine r_addN rfl rfl rfl rfl (i64K (by omega) (by omega)) ?_ | refine r_add rfl rfl rfl rfl (i64K (by omega) (by omega)) ?_
                  refine r_assign rfl rfl rfl ?_
                  refine R_nil ?_
                  refine K_tn ?_
                  first | have hst := ripestTo_t (by assumption) | have hst := ripestTo_f (by assumption)
                  exact K_again (k + 1) (by omega) (by omega) (by repeat (first | exact trivial | refine ⟨rfl, ?_⟩ | refine ⟨(by rw [← hst]; rfl), ?_⟩)) (by repeat (first | exact .z | apply Rems.s Rem.z | apply Rems.s (Rem.s Rem.z) | apply Rems.s (Rem.s (Rem.s Rem.z)) | apply Rems.s (Rem.s (Rem.s (Rem.s Rem.z))) | apply Rems.s (Rem.s (Rem.s (Rem.s (Rem.s Rem.z)))) | apply Rems.s (Rem.s (Rem.s (Rem.s (Rem.s (Rem.s Rem.z))))) | apply Rems.s (Rem.s (Rem.s (Rem.s (Rem.s (Rem.s (Rem.s Rem.z)))))) | apply Rems.s (Rem.s (Rem.s (Rem.s (Rem.s (Rem.s (Rem.s (Rem.s Rem.z))))))) | apply Rems.s (Rem.s (Rem.s (Rem.s (Rem.s (Rem.s (Rem.s (Rem.s (Rem.s Rem.z)))))))) | apply Rems.s (Rem.s (Rem.s (Rem.s (Rem.s (Rem.s (Rem.s (Rem.s (Rem.s (Rem.s Rem.z)))))))))))
          · first
            | (exfalso; first | (simp_all; done) | omega)
            |
              refine R_nil ?_
              refine K_tn ?_
              refine K_cond_f rfl ?_
              refine K_exit ?_
              refine K_te ?_
              refine K_te ?_
              refine K_be ?_
              refine K_tn ?_
              refine K_seq ?_
              have hkn : k = n := by omega
              subst hkn
              refine R_drawAll mixed (by kernel_rfl) ?_
              refine q_pure rfl rfl (p_move rfl) ?_
              refine q_pure rfl rfl (p_move rfl) ?_
              refine q_pure rfl rfl (p_fieldAddr fd_28_1 rfl) ?_
              refine q_pure rfl rfl (p_indexA ar_24 sz_23 rfl rfl (by first | omega | (have h_r := ripestTo_lt rs k; omega) | (have h_r := ripestTo_lt rs n; omega))) ?_
              refine q_pure rfl rfl (p_load ag_23 rfl (by first | exact .h .z | exact .h (.s .z) | exact .h (.s (.s .z)) | exact .h (.s (.s (.s .z))) | exact .h (.s (.s (.s (.s .z)))) | exact .h (.s (.s (.s (.s (.s .z))))) | exact .h (.s (.s (.s (.s (.s (.s .z)))))) | exact .h (.s (.s (.s (.s (.s (.s (.s .z))))))) | exact .h (.s (.s (.s (.s (.s (.s (.s (.s .z)))))))) | exact .x .z | exact .x (.s .z) | exact .x (.s (.s .z)) | exact .x (.s (.s (.s .z))) | exact .x (.s (.s (.s (.s .z)))) | exact .x (.s (.s (.s (.s (.s .z))))) | exact .x (.s (.s (.s (.s (.s (.s .z))))))) (by first | rfl | exact gC (by first | omega | (have h_r := ripestTo_lt rs k; omega) | (have h_r := ripestTo_lt rs n; omega)) | exact takeC (by omega) | exact takeC0 (by omega))) ?_
              refine q_pure rfl rfl (p_assign rfl) ?_
              refine q_pure rfl rfl (p_assign rfl) ?_
              refine q_pure rfl rfl (p_assign rfl) ?_
              refine q_nil ?_
              refine K_tn ?_
              refine K_ret ?_
              refine K_done (H' := []) rfl rfl (.s (.tmp rfl) (.s (.tmp rfl) (.s (.tmp rfl) .z))) (by repeat (first | exact .z | apply Rems.s Rem.z | apply Rems.s (Rem.s Rem.z) | apply Rems.s (Rem.s (Rem.s Rem.z)) | apply Rems.s (Rem.s (Rem.s (Rem.s Rem.z))) | apply Rems.s (Rem.s (Rem.s (Rem.s (Rem.s Rem.z)))) | apply Rems.s (Rem.s (Rem.s (Rem.s (Rem.s (Rem.s Rem.z))))) | apply Rems.s (Rem.s (Rem.s (Rem.s (Rem.s (Rem.s (Rem.s Rem.z)))))) | apply Rems.s (Rem.s (Rem.s (Rem.s (Rem.s (Rem.s (Rem.s (Rem.s Rem.z))))))) | apply Rems.s (Rem.s (Rem.s (Rem.s (Rem.s (Rem.s (Rem.s (Rem.s (Rem.s Rem.z)))))))) | apply Rems.s (Rem.s (Rem.s (Rem.s (Rem.s (Rem.s (Rem.s (Rem.s (Rem.s (Rem.s Rem.z))))))))))) ?_
              refine ⟨?_, rfl⟩
              unfold warmDay warmth warmCode; simp_all [packV, -List.getD_eq_getElem?_getD]
  · first
    | (exfalso; first | (simp_all; done) | omega)
    |
      refine r_not rfl rfl rfl ?_
      refine R_nil ?_
      refine K_tn ?_
      refine K_cond_t rfl ?_
      refine K_seq ?_
      refine R_region ?_
      refine r_assign rfl rfl rfl ?_
      refine r_assign rfl rfl rfl ?_
      refine r_assign rfl rfl rfl ?_
      refine R_nil ?_
      refine K_tn ?_
      refine K_ret ?_
      refine K_tr ?_
      refine K_done (H' := []) rfl rfl (.s (.tmp rfl) (.s (.tmp rfl) (.s (.tmp rfl) .z))) (by repeat (first | exact .z | apply Rems.s Rem.z | apply Rems.s (Rem.s Rem.z) | apply Rems.s (Rem.s (Rem.s Rem.z)) | apply Rems.s (Rem.s (Rem.s (Rem.s Rem.z))) | apply Rems.s (Rem.s (Rem.s (Rem.s (Rem.s Rem.z)))) | apply Rems.s (Rem.s (Rem.s (Rem.s (Rem.s (Rem.s Rem.z))))) | apply Rems.s (Rem.s (Rem.s (Rem.s (Rem.s (Rem.s (Rem.s Rem.z)))))) | apply Rems.s (Rem.s (Rem.s (Rem.s (Rem.s (Rem.s (Rem.s (Rem.s Rem.z))))))) | apply Rems.s (Rem.s (Rem.s (Rem.s (Rem.s (Rem.s (Rem.s (Rem.s (Rem.s Rem.z)))))))) | apply Rems.s (Rem.s (Rem.s (Rem.s (Rem.s (Rem.s (Rem.s (Rem.s (Rem.s (Rem.s Rem.z))))))))))) ?_
      refine ⟨?_, rfl⟩
      unfold warmDay warmth warmCode; simp_all [packV, -List.getD_eq_getElem?_getD]

set_option maxRecDepth 20000 in
theorem spec_WarmestDay_no (n : Int) (rs : List Nat) (hl : rs.length = 16) (hn : -128 ≤ n ∧ n ≤ 127) (hv : vCrate n rs = false ∨ n = 0) : SpecV Try.prog 25 [.agg (.int .i8 (n : Int) :: fl .f32 rs).toArray] [] (packV [.int .i64 (warmDay n rs : Int), .float .f32 (warmth n rs), .int .i64 (warmCode n rs)]) := by
  refine spec_of Try.func25 rfl Try.ntmps25 rfl (fun w0 => ?_)
  refine K_seq ?_
  refine R_region ?_
  refine r_box rfl rfl rfl rfl (fun b1 => ?_)
  refine r_assign rfl rfl rfl ?_
  refine r_assign rfl rfl rfl ?_
  refine r_assign rfl rfl rfl ?_
  refine R_nil ?_
  refine K_tn ?_
  refine K_seq ?_
  refine K_seq ?_
  refine R_region ?_
  refine s_callV cb_60 rfl rfl rfl rfl rfl (l04Ok _ _ _ (by assumption) (by first | assumption | omega) _ _) (by repeat (first | exact .z | refine .s (.h .z) ?_ | refine .s (.h (.s .z)) ?_ | refine .s (.h (.s (.s .z))) ?_ | refine .s (.h (.s (.s (.s .z)))) ?_ | refine .s (.h (.s (.s (.s (.s .z))))) ?_ | refine .s (.h (.s (.s (.s (.s (.s .z)))))) ?_ | refine .s (.h (.s (.s (.s (.s (.s (.s .z))))))) ?_ | refine .s (.h (.s (.s (.s (.s (.s (.s (.s .z)))))))) ?_ | refine .s (.h (.s (.s (.s (.s (.s (.s (.s (.s .z))))))))) ?_ | refine .s (.x .z) ?_ | refine .s (.x (.s .z)) ?_ | refine .s (.x (.s (.s .z))) ?_ | refine .s (.x (.s (.s (.s .z)))) ?_ | refine .s (.x (.s (.s (.s (.s .z))))) ?_ | refine .s (.x (.s (.s (.s (.s (.s .z)))))) ?_ | refine .s (.x (.s (.s (.s (.s (.s (.s .z))))))) ?_)) (fun h7 => ?_) (fun h7 => ?_)
  · first
    | (exfalso; first | (simp_all; done) | omega)
    |
      refine r_not rfl rfl rfl ?_
      refine R_nil ?_
      refine K_tn ?_
      refine K_cond_f rfl ?_
      refine K_skip ?_
      refine K_tn ?_
      refine K_seq ?_
      refine K_seq ?_
      refine R_region ?_
      refine r_fieldAddr fd_28_0 rfl rfl rfl ?_
      refine r_load ag_22 rfl rfl rfl (by first | exact .h .z | exact .h (.s .z) | exact .h (.s (.s .z)) | exact .h (.s (.s (.s .z))) | exact .h (.s (.s (.s (.s .z)))) | exact .h (.s (.s (.s (.s (.s .z))))) | exact .h (.s (.s (.s (.s (.s (.s .z)))))) | exact .h (.s (.s (.s (.s (.s (.s (.s .z))))))) | exact .h (.s (.s (.s (.s (.s (.s (.s (.s .z)))))))) | exact .x .z | exact .x (.s .z) | exact .x (.s (.s .z)) | exact .x (.s (.s (.s .z))) | exact .x (.s (.s (.s (.s .z)))) | exact .x (.s (.s (.s (.s (.s .z))))) | exact .x (.s (.s (.s (.s (.s (.s .z))))))) (by first | rfl | exact gC (by first | omega | (have h_r := ripestTo_lt rs k; omega) | (have h_r := ripestTo_lt rs n; omega)) | exact takeC (by omega) | exact takeC0 (by omega)) ?_
      refine s_eql rfl rfl rfl rfl (fun h11 => ?_) (fun h11 => ?_)
      · first
        | (exfalso; first | (simp_all; done) | omega)
        |
          refine R_nil ?_
          refine K_tn ?_
          refine K_cond_t rfl ?_
          refine K_seq ?_
          refine R_region ?_
          refine r_assign rfl rfl rfl ?_
          refine r_assign rfl rfl rfl ?_
          refine r_assign rfl rfl rfl ?_
          refine R_nil ?_
          refine K_tn ?_
          refine K_ret ?_
          refine K_tr ?_
          refine K_done (H' := []) rfl rfl (.s (.tmp rfl) (.s (.tmp rfl) (.s (.tmp rfl) .z))) (by repeat (first | exact .z | apply Rems.s Rem.z | apply Rems.s (Rem.s Rem.z) | apply Rems.s (Rem.s (Rem.s Rem.z)) | apply Rems.s (Rem.s (Rem.s (Rem.s Rem.z))) | apply Rems.s (Rem.s (Rem.s (Rem.s (Rem.s Rem.z)))) | apply Rems.s (Rem.s (Rem.s (Rem.s (Rem.s (Rem.s Rem.z))))) | apply Rems.s (Rem.s (Rem.s (Rem.s (Rem.s (Rem.s (Rem.s Rem.z)))))) | apply Rems.s (Rem.s (Rem.s (Rem.s (Rem.s (Rem.s (Rem.s (Rem.s Rem.z))))))) | apply Rems.s (Rem.s (Rem.s (Rem.s (Rem.s (Rem.s (Rem.s (Rem.s (Rem.s Rem.z)))))))) | apply Rems.s (Rem.s (Rem.s (Rem.s (Rem.s (Rem.s (Rem.s (Rem.s (Rem.s (Rem.s Rem.z))))))))))) ?_
          refine ⟨?_, rfl⟩
          rcases hv with hv | hv <;> unfold warmDay warmth warmCode <;> simp_all [packV, ripestTo, -List.getD_eq_getElem?_getD]
      · first
        | (exfalso; first | (simp_all; done) | omega)
        |
          refine R_nil ?_
          refine K_tn ?_
          refine K_cond_f rfl ?_
          refine K_skip ?_
          refine K_tn ?_
          refine K_seq ?_
          refine R_region ?_
          refine r_assign rfl rfl rfl ?_
          refine R_nil ?_
          refine K_tn ?_
          refine K_seq ?_
          refine K_seq ?_
          refine R_region ?_
          refine r_assign rfl rfl rfl ?_
          refine R_nil ?_
          refine K_tn ?_
          refine K_block ?_
          refine K_loop (fun (k : Nat) => k ≤ n ∧ 1 ≤ k) (fun k => [(1, .pointer (some ⟨b1, 0, none⟩)), (5, .int .i64 (ripestTo rs k : Int)), (6, .int .i64 (k : Int))]) (fun _ => [(b1, .cells (.int .i8 (n : Int) :: fl .f32 rs).toArray 28 (0, 0))]) (fun k => n - k) 1 (by simp_all; omega) (by repeat (first | exact trivial | refine ⟨rfl, ?_⟩ | refine ⟨(by rw [ripestTo_one]; rfl), ?_⟩)) (by repeat (first | exact .z | apply Rems.s Rem.z | apply Rems.s (Rem.s Rem.z) | apply Rems.s (Rem.s (Rem.s Rem.z)) | apply Rems.s (Rem.s (Rem.s (Rem.s Rem.z))) | apply Rems.s (Rem.s (Rem.s (Rem.s (Rem.s Rem.z)))) | apply Rems.s (Rem.s (Rem.s (Rem.s (Rem.s (Rem.s Rem.z))))) | apply Rems.s (Rem.s (Rem.s (Rem.s (Rem.s (Rem.s (Rem.s Rem.z)))))) | apply Rems.s (Rem.s (Rem.s (Rem.s (Rem.s (Rem.s (Rem.s (Rem.s Rem.z))))))) | apply Rems.s (Rem.s (Rem.s (Rem.s (Rem.s (Rem.s (Rem.s (Rem.s (Rem.s Rem.z)))))))) | apply Rems.s (Rem.s (Rem.s (Rem.s (Rem.s (Rem.s (Rem.s (Rem.s (Rem.s (Rem.s Rem.z))))))))))) (fun k hp => ?_)
          refine K_seq ?_
          refine K_seq ?_
          refine R_region ?_
          refine r_move rfl rfl rfl ?_
          refine r_fieldAddr fd_28_0 rfl rfl rfl ?_
          refine r_load ag_22 rfl rfl rfl (by first | exact .h .z | exact .h (.s .z) | exact .h (.s (.s .z)) | exact .h (.s (.s (.s .z))) | exact .h (.s (.s (.s (.s .z)))) | exact .h (.s (.s (.s (.s (.s .z))))) | exact .h (.s (.s (.s (.s (.s (.s .z)))))) | exact .h (.s (.s (.s (.s (.s (.s (.s .z))))))) | exact .h (.s (.s (.s (.s (.s (.s (.s (.s .z)))))))) | exact .x .z | exact .x (.s .z) | exact .x (.s (.s .z)) | exact .x (.s (.s (.s .z))) | exact .x (.s (.s (.s (.s .z)))) | exact .x (.s (.s (.s (.s (.s .z))))) | exact .x (.s (.s (.s (.s (.s (.s .z))))))) (by first | rfl | exact gC (by first | omega | (have h_r := ripestTo_lt rs k; omega) | (have h_r := ripestTo_lt rs n; omega)) | exact takeC (by omega) | exact takeC0 (by omega)) ?_
          refine r_convI ⟨_, un_22⟩ un_3 rfl rfl rfl (i64K (by omega) (by omega)) ?_
          refine s_lss rfl rfl rfl rfl (fun h16 => ?_) (fun h16 => ?_)
          · first
            | (exfalso; first | (simp_all; done) | omega)
            |
              refine R_nil ?_
              refine K_tn ?_
              refine K_cond_t rfl ?_
              refine K_skip ?_
              refine K_tn ?_
              refine K_seq ?_
              refine K_block ?_
              refine K_seq ?_
              refine R_drawAll mixed (by kernel_rfl) ?_
              refine q_pure rfl rfl (p_move rfl) ?_
              refine q_pure rfl rfl (p_fieldAddr fd_28_1 rfl) ?_
              refine q_pure rfl rfl (p_indexA ar_24 sz_23 rfl rfl (by first | omega | (have h_r := ripestTo_lt rs k; omega) | (have h_r := ripestTo_lt rs n; omega))) ?_
              refine q_pure rfl rfl (p_load ag_23 rfl (by first | exact .h .z | exact .h (.s .z) | exact .h (.s (.s .z)) | exact .h (.s (.s (.s .z))) | exact .h (.s (.s (.s (.s .z)))) | exact .h (.s (.s (.s (.s (.s .z))))) | exact .h (.s (.s (.s (.s (.s (.s .z)))))) | exact .h (.s (.s (.s (.s (.s (.s (.s .z))))))) | exact .h (.s (.s (.s (.s (.s (.s (.s (.s .z)))))))) | exact .x .z | exact .x (.s .z) | exact .x (.s (.s .z)) | exact .x (.s (.s (.s .z))) | exact .x (.s (.s (.s (.s .z)))) | exact .x (.s (.s (.s (.s (.s .z))))) | exact .x (.s (.s (.s (.s (.s (.s .z))))))) (by first | rfl | exact gC (by first | omega | (have h_r := ripestTo_lt rs k; omega) | (have h_r := ripestTo_lt rs n; omega)) | exact takeC (by omega) | exact takeC0 (by omega))) ?_
              refine q_pure rfl rfl (p_move rfl) ?_
              refine q_pure rfl rfl (p_fieldAddr fd_28_1 rfl) ?_
              refine q_pure rfl rfl (p_indexA ar_24 sz_23 rfl rfl (by first | omega | (have h_r := ripestTo_lt rs k; omega) | (have h_r := ripestTo_lt rs n; omega))) ?_
              refine q_pure rfl rfl (p_load ag_23 rfl (by first | exact .h .z | exact .h (.s .z) | exact .h (.s (.s .z)) | exact .h (.s (.s (.s .z))) | exact .h (.s (.s (.s (.s .z)))) | exact .h (.s (.s (.s (.s (.s .z))))) | exact .h (.s (.s (.s (.s (.s (.s .z)))))) | exact .h (.s (.s (.s (.s (.s (.s (.s .z))))))) | exact .h (.s (.s (.s (.s (.s (.s (.s (.s .z)))))))) | exact .x .z | exact .x (.s .z) | exact .x (.s (.s .z)) | exact .x (.s (.s (.s .z))) | exact .x (.s (.s (.s (.s .z)))) | exact .x (.s (.s (.s (.s (.s .z))))) | exact .x (.s (.s (.s (.s (.s (.s .z))))))) (by first | rfl | exact gC (by first | omega | (have h_r := ripestTo_lt rs k; omega) | (have h_r := ripestTo_lt rs n; omega)) | exact takeC (by omega) | exact takeC0 (by omega))) ?_
              refine q_pure rfl rfl (p_tfcmp rfl rfl (fun _ _ => run_fgt)) ?_
              refine KQ_split (d := 27) rfl (fun h27 => ?_) (fun h27 => ?_)
              · first
                | (exfalso; first | (simp_all; done) | omega)
                |
                  refine q_nil ?_
                  refine K_tn ?_
                  refine K_cond_t rfl ?_
                  refine R_region ?_
                  refine r_move rfl rfl rfl ?_
                  refine r_assign rfl rfl rfl ?_
                  refine R_nil ?_
                  refine K_bn ?_
                  refine K_tn ?_
                  refine R_region ?_
                  refine r_move rfl rfl rfl ?_
                  first | refine r_addN rfl rfl rfl rfl (i64K (by omega) (by omega)) ?_ | refine r_add rfl rfl rfl rfl (i64K (by omega) (by omega)) ?_
                  refine r_assign rfl rfl rfl ?_
                  refine R_nil ?_
                  refine K_tn ?_
                  first | have hst := ripestTo_t (by assumption) | have hst := ripestTo_f (by assumption)
                  exact K_again (k + 1) (by omega) (by omega) (by repeat (first | exact trivial | refine ⟨rfl, ?_⟩ | refine ⟨(by rw [← hst]; rfl), ?_⟩)) (by repeat (first | exact .z | apply Rems.s Rem.z | apply Rems.s (Rem.s Rem.z) | apply Rems.s (Rem.s (Rem.s Rem.z)) | apply Rems.s (Rem.s (Rem.s (Rem.s Rem.z))) | apply Rems.s (Rem.s (Rem.s (Rem.s (Rem.s Rem.z)))) | apply Rems.s (Rem.s (Rem.s (Rem.s (Rem.s (Rem.s Rem.z))))) | apply Rems.s (Rem.s (Rem.s (Rem.s (Rem.s (Rem.s (Rem.s Rem.z)))))) | apply Rems.s (Rem.s (Rem.s (Rem.s (Rem.s (Rem.s (Rem.s (Rem.s Rem.z))))))) | apply Rems.s (Rem.s (Rem.s (Rem.s (Rem.s (Rem.s (Rem.s (Rem.s (Rem.s Rem.z)))))))) | apply Rems.s (Rem.s (Rem.s (Rem.s (Rem.s (Rem.s (Rem.s (Rem.s (Rem.s (Rem.s Rem.z)))))))))))
              · first
                | (exfalso; first | (simp_all; done) | omega)
                |
                  refine q_nil ?_
                  refine K_tn ?_
                  refine K_cond_f rfl ?_
                  refine K_skip ?_
                  refine K_bn ?_
                  refine K_tn ?_
                  refine R_region ?_
                  refine r_move rfl rfl rfl ?_
                  first | refine r_addN rfl rfl rfl rfl (i64K (by omega) (by omega)) ?_ | refine r_add rfl rfl rfl rfl (i64K (by omega) (by omega)) ?_
                  refine r_assign rfl rfl rfl ?_
                  refine R_nil ?_
                  refine K_tn ?_
                  first | have hst := ripestTo_t (by assumption) | have hst := ripestTo_f (by assumption)
                  exact K_again (k + 1) (by omega) (by omega) (by repeat (first | exact trivial | refine ⟨rfl, ?_⟩ | refine ⟨(by rw [← hst]; rfl), ?_⟩)) (by repeat (first | exact .z | apply Rems.s Rem.z | apply Rems.s (Rem.s Rem.z) | apply Rems.s (Rem.s (Rem.s Rem.z)) | apply Rems.s (Rem.s (Rem.s (Rem.s Rem.z))) | apply Rems.s (Rem.s (Rem.s (Rem.s (Rem.s Rem.z)))) | apply Rems.s (Rem.s (Rem.s (Rem.s (Rem.s (Rem.s Rem.z))))) | apply Rems.s (Rem.s (Rem.s (Rem.s (Rem.s (Rem.s (Rem.s Rem.z)))))) | apply Rems.s (Rem.s (Rem.s (Rem.s (Rem.s (Rem.s (Rem.s (Rem.s Rem.z))))))) | apply Rems.s (Rem.s (Rem.s (Rem.s (Rem.s (Rem.s (Rem.s (Rem.s (Rem.s Rem.z)))))))) | apply Rems.s (Rem.s (Rem.s (Rem.s (Rem.s (Rem.s (Rem.s (Rem.s (Rem.s (Rem.s Rem.z)))))))))))
          · first
            | (exfalso; first | (simp_all; done) | omega)
            |
              refine R_nil ?_
              refine K_tn ?_
              refine K_cond_f rfl ?_
              refine K_exit ?_
              refine K_te ?_
              refine K_te ?_
              refine K_be ?_
              refine K_tn ?_
              refine K_seq ?_
              refine R_drawAll mixed (by kernel_rfl) ?_
              refine q_pure rfl rfl (p_move rfl) ?_
              refine q_pure rfl rfl (p_move rfl) ?_
              refine q_pure rfl rfl (p_fieldAddr fd_28_1 rfl) ?_
              refine q_pure rfl rfl (p_indexA ar_24 sz_23 rfl rfl (by first | omega | (have h_r := ripestTo_lt rs k; omega) | (have h_r := ripestTo_lt rs n; omega))) ?_
              refine q_pure rfl rfl (p_load ag_23 rfl (by first | exact .h .z | exact .h (.s .z) | exact .h (.s (.s .z)) | exact .h (.s (.s (.s .z))) | exact .h (.s (.s (.s (.s .z)))) | exact .h (.s (.s (.s (.s (.s .z))))) | exact .h (.s (.s (.s (.s (.s (.s .z)))))) | exact .h (.s (.s (.s (.s (.s (.s (.s .z))))))) | exact .h (.s (.s (.s (.s (.s (.s (.s (.s .z)))))))) | exact .x .z | exact .x (.s .z) | exact .x (.s (.s .z)) | exact .x (.s (.s (.s .z))) | exact .x (.s (.s (.s (.s .z)))) | exact .x (.s (.s (.s (.s (.s .z))))) | exact .x (.s (.s (.s (.s (.s (.s .z))))))) (by first | rfl | exact gC (by first | omega | (have h_r := ripestTo_lt rs k; omega) | (have h_r := ripestTo_lt rs n; omega)) | exact takeC (by omega) | exact takeC0 (by omega))) ?_
              refine q_pure rfl rfl (p_assign rfl) ?_
              refine q_pure rfl rfl (p_assign rfl) ?_
              refine q_pure rfl rfl (p_assign rfl) ?_
              refine q_nil ?_
              refine K_tn ?_
              refine K_ret ?_
              refine K_done (H' := []) rfl rfl (.s (.tmp rfl) (.s (.tmp rfl) (.s (.tmp rfl) .z))) (by repeat (first | exact .z | apply Rems.s Rem.z | apply Rems.s (Rem.s Rem.z) | apply Rems.s (Rem.s (Rem.s Rem.z)) | apply Rems.s (Rem.s (Rem.s (Rem.s Rem.z))) | apply Rems.s (Rem.s (Rem.s (Rem.s (Rem.s Rem.z)))) | apply Rems.s (Rem.s (Rem.s (Rem.s (Rem.s (Rem.s Rem.z))))) | apply Rems.s (Rem.s (Rem.s (Rem.s (Rem.s (Rem.s (Rem.s Rem.z)))))) | apply Rems.s (Rem.s (Rem.s (Rem.s (Rem.s (Rem.s (Rem.s (Rem.s Rem.z))))))) | apply Rems.s (Rem.s (Rem.s (Rem.s (Rem.s (Rem.s (Rem.s (Rem.s (Rem.s Rem.z)))))))) | apply Rems.s (Rem.s (Rem.s (Rem.s (Rem.s (Rem.s (Rem.s (Rem.s (Rem.s (Rem.s Rem.z))))))))))) ?_
              refine ⟨?_, rfl⟩
              rcases hv with hv | hv <;> unfold warmDay warmth warmCode <;> simp_all [packV, ripestTo, -List.getD_eq_getElem?_getD]
  · first
    | (exfalso; first | (simp_all; done) | omega)
    |
      refine r_not rfl rfl rfl ?_
      refine R_nil ?_
      refine K_tn ?_
      refine K_cond_t rfl ?_
      refine K_seq ?_
      refine R_region ?_
      refine r_assign rfl rfl rfl ?_
      refine r_assign rfl rfl rfl ?_
      refine r_assign rfl rfl rfl ?_
      refine R_nil ?_
      refine K_tn ?_
      refine K_ret ?_
      refine K_tr ?_
      refine K_done (H' := []) rfl rfl (.s (.tmp rfl) (.s (.tmp rfl) (.s (.tmp rfl) .z))) (by repeat (first | exact .z | apply Rems.s Rem.z | apply Rems.s (Rem.s Rem.z) | apply Rems.s (Rem.s (Rem.s Rem.z)) | apply Rems.s (Rem.s (Rem.s (Rem.s Rem.z))) | apply Rems.s (Rem.s (Rem.s (Rem.s (Rem.s Rem.z)))) | apply Rems.s (Rem.s (Rem.s (Rem.s (Rem.s (Rem.s Rem.z))))) | apply Rems.s (Rem.s (Rem.s (Rem.s (Rem.s (Rem.s (Rem.s Rem.z)))))) | apply Rems.s (Rem.s (Rem.s (Rem.s (Rem.s (Rem.s (Rem.s (Rem.s Rem.z))))))) | apply Rems.s (Rem.s (Rem.s (Rem.s (Rem.s (Rem.s (Rem.s (Rem.s (Rem.s Rem.z)))))))) | apply Rems.s (Rem.s (Rem.s (Rem.s (Rem.s (Rem.s (Rem.s (Rem.s (Rem.s (Rem.s Rem.z))))))))))) ?_
      refine ⟨?_, rfl⟩
      rcases hv with hv | hv <;> unfold warmDay warmth warmCode <;> simp_all [packV, ripestTo, -List.getD_eq_getElem?_getD]

set_option maxRecDepth 20000 in
theorem ripest (n : Nat) (rs : List Nat) (hl : rs.length = 16) (hn : n ≤ 16) : SpecV Try.prog 94 [.agg (.int .i8 (n : Int) :: fl .f32 rs).toArray] [] (.int .i64 (ripestTo rs n : Int)) := by
  refine spec_of Try.func94 rfl Try.ntmps94 rfl (fun w0 => ?_)
  refine K_seq ?_
  refine R_region ?_
  refine r_box rfl rfl rfl rfl (fun b1 => ?_)
  refine r_assign rfl rfl rfl ?_
  refine R_nil ?_
  refine K_tn ?_
  refine K_seq ?_
  refine R_region ?_
  refine r_assign rfl rfl rfl ?_
  refine R_nil ?_
  refine K_tn ?_
  refine K_seq ?_
  refine K_seq ?_
  refine R_region ?_
  refine r_callV cb_100 rfl rfl rfl rfl rfl (fruits _ _ _ (by omega) _ _) (by repeat (first | exact .z | refine .s (.h .z) ?_ | refine .s (.h (.s .z)) ?_ | refine .s (.h (.s (.s .z))) ?_ | refine .s (.h (.s (.s (.s .z)))) ?_ | refine .s (.h (.s (.s (.s (.s .z))))) ?_ | refine .s (.h (.s (.s (.s (.s (.s .z)))))) ?_ | refine .s (.h (.s (.s (.s (.s (.s (.s .z))))))) ?_ | refine .s (.h (.s (.s (.s (.s (.s (.s (.s .z)))))))) ?_ | refine .s (.h (.s (.s (.s (.s (.s (.s (.s (.s .z))))))))) ?_ | refine .s (.x .z) ?_ | refine .s (.x (.s .z)) ?_ | refine .s (.x (.s (.s .z))) ?_ | refine .s (.x (.s (.s (.s .z)))) ?_ | refine .s (.x (.s (.s (.s (.s .z))))) ?_ | refine .s (.x (.s (.s (.s (.s (.s .z)))))) ?_ | refine .s (.x (.s (.s (.s (.s (.s (.s .z))))))) ?_)) ?_
  refine r_lenS sl_47 rfl rfl rfl ?_
  refine r_move rfl rfl rfl ?_
  refine R_nil ?_
  refine K_tn ?_
  refine K_block ?_
  refine K_loop (fun (k : Nat) => k ≤ n) (fun k => [(1, .pointer (some ⟨b1, 0, none⟩)), (3, .int .i64 (ripestTo rs k : Int)), (6, .slice (some ⟨b1, 0 + 1, none⟩) n 16), (7, .int .i64 (n : Int)), (8, .int .i64 (k : Int))]) (fun _ => [(b1, .cells (.int .i8 (n : Int) :: fl .f32 rs).toArray 54 (0, 0))]) (fun k => n - k) 0 (by omega) (by repeat (first | exact trivial | refine ⟨rfl, ?_⟩)) (by repeat (first | exact .z | apply Rems.s Rem.z | apply Rems.s (Rem.s Rem.z) | apply Rems.s (Rem.s (Rem.s Rem.z)) | apply Rems.s (Rem.s (Rem.s (Rem.s Rem.z))) | apply Rems.s (Rem.s (Rem.s (Rem.s (Rem.s Rem.z)))) | apply Rems.s (Rem.s (Rem.s (Rem.s (Rem.s (Rem.s Rem.z))))) | apply Rems.s (Rem.s (Rem.s (Rem.s (Rem.s (Rem.s (Rem.s Rem.z)))))) | apply Rems.s (Rem.s (Rem.s (Rem.s (Rem.s (Rem.s (Rem.s (Rem.s Rem.z))))))) | apply Rems.s (Rem.s (Rem.s (Rem.s (Rem.s (Rem.s (Rem.s (Rem.s (Rem.s Rem.z)))))))) | apply Rems.s (Rem.s (Rem.s (Rem.s (Rem.s (Rem.s (Rem.s (Rem.s (Rem.s (Rem.s Rem.z))))))))))) (fun k hp => ?_)
  refine K_seq ?_
  refine R_region ?_
  refine s_lss rfl rfl rfl rfl (fun h9 => ?_) (fun h9 => ?_)
  · first
    | (exfalso; omega)
    |
      refine R_nil ?_
      refine K_tn ?_
      refine K_seq ?_
      refine K_cond_t rfl ?_
      refine K_skip ?_
      refine K_tn ?_
      refine K_seq ?_
      refine K_block ?_
      refine K_seq ?_
      refine R_region ?_
      refine r_move rfl rfl rfl ?_
      refine r_indexS sl_47 sz_23 rfl rfl rfl rfl (by first | omega | (have h_r := ripestTo_lt rs k; omega) | (have h_r := ripestTo_lt rs n; omega)) ?_
      refine r_load ag_23 rfl rfl rfl (by first | exact .h .z | exact .h (.s .z) | exact .h (.s (.s .z)) | exact .h (.s (.s (.s .z))) | exact .h (.s (.s (.s (.s .z)))) | exact .h (.s (.s (.s (.s (.s .z))))) | exact .h (.s (.s (.s (.s (.s (.s .z)))))) | exact .h (.s (.s (.s (.s (.s (.s (.s .z))))))) | exact .h (.s (.s (.s (.s (.s (.s (.s (.s .z)))))))) | exact .x .z | exact .x (.s .z) | exact .x (.s (.s .z)) | exact .x (.s (.s (.s .z))) | exact .x (.s (.s (.s (.s .z)))) | exact .x (.s (.s (.s (.s (.s .z))))) | exact .x (.s (.s (.s (.s (.s (.s .z))))))) (by first | rfl | exact gC (by first | omega | (have h_r := ripestTo_lt rs k; omega) | (have h_r := ripestTo_lt rs n; omega)) | exact takeC (by omega) | exact takeC0 (by omega)) ?_
      refine r_assign rfl rfl rfl ?_
      refine r_assign rfl rfl rfl ?_
      refine R_nil ?_
      refine K_tn ?_
      refine K_seq ?_
      refine R_region ?_
      refine r_move rfl rfl rfl ?_
      refine r_move rfl rfl rfl ?_
      refine r_fieldAddr fd_54_1 rfl rfl rfl ?_
      refine r_indexA ar_24 sz_23 rfl rfl rfl rfl (by first | omega | (have h_r := ripestTo_lt rs k; omega) | (have h_r := ripestTo_lt rs n; omega)) ?_
      refine r_load ag_23 rfl rfl rfl (by first | exact .h .z | exact .h (.s .z) | exact .h (.s (.s .z)) | exact .h (.s (.s (.s .z))) | exact .h (.s (.s (.s (.s .z)))) | exact .h (.s (.s (.s (.s (.s .z))))) | exact .h (.s (.s (.s (.s (.s (.s .z)))))) | exact .h (.s (.s (.s (.s (.s (.s (.s .z))))))) | exact .h (.s (.s (.s (.s (.s (.s (.s (.s .z)))))))) | exact .x .z | exact .x (.s .z) | exact .x (.s (.s .z)) | exact .x (.s (.s (.s .z))) | exact .x (.s (.s (.s (.s .z)))) | exact .x (.s (.s (.s (.s (.s .z))))) | exact .x (.s (.s (.s (.s (.s (.s .z))))))) (by first | rfl | exact gC (by first | omega | (have h_r := ripestTo_lt rs k; omega) | (have h_r := ripestTo_lt rs n; omega)) | exact takeC (by omega) | exact takeC0 (by omega)) ?_
      refine s_fcmp rfl rfl rfl rfl (fun _ _ => run_fgt) (fun h18 => ?_) (fun h18 => ?_)
      · first
        | (exfalso; omega)
        |
          refine R_nil ?_
          refine K_tn ?_
          refine K_cond_t rfl ?_
          refine R_region ?_
          refine r_move rfl rfl rfl ?_
          refine r_assign rfl rfl rfl ?_
          refine R_nil ?_
          refine K_bn ?_
          refine K_tn ?_
          refine R_region ?_
          first | refine r_addN rfl rfl rfl rfl (i64K (by omega) (by omega)) ?_ | refine r_add rfl rfl rfl rfl (i64K (by omega) (by omega)) ?_
          refine r_move rfl rfl rfl ?_
          refine R_nil ?_
          refine K_tn ?_
          first | have hst := ripestTo_t (by assumption) | have hst := ripestTo_f (by assumption)
          exact K_again (k + 1) (by omega) (by omega) (by repeat (first | exact trivial | refine ⟨rfl, ?_⟩ | refine ⟨(by rw [← hst]; rfl), ?_⟩)) (by repeat (first | exact .z | apply Rems.s Rem.z | apply Rems.s (Rem.s Rem.z) | apply Rems.s (Rem.s (Rem.s Rem.z)) | apply Rems.s (Rem.s (Rem.s (Rem.s Rem.z))) | apply Rems.s (Rem.s (Rem.s (Rem.s (Rem.s Rem.z)))) | apply Rems.s (Rem.s (Rem.s (Rem.s (Rem.s (Rem.s Rem.z))))) | apply Rems.s (Rem.s (Rem.s (Rem.s (Rem.s (Rem.s (Rem.s Rem.z)))))) | apply Rems.s (Rem.s (Rem.s (Rem.s (Rem.s (Rem.s (Rem.s (Rem.s Rem.z))))))) | apply Rems.s (Rem.s (Rem.s (Rem.s (Rem.s (Rem.s (Rem.s (Rem.s (Rem.s Rem.z)))))))) | apply Rems.s (Rem.s (Rem.s (Rem.s (Rem.s (Rem.s (Rem.s (Rem.s (Rem.s (Rem.s Rem.z)))))))))))
      · first
        | (exfalso; omega)
        |
          refine R_nil ?_
          refine K_tn ?_
          refine K_cond_f rfl ?_
          refine K_skip ?_
          refine K_bn ?_
          refine K_tn ?_
          refine R_region ?_
          first | refine r_addN rfl rfl rfl rfl (i64K (by omega) (by omega)) ?_ | refine r_add rfl rfl rfl rfl (i64K (by omega) (by omega)) ?_
          refine r_move rfl rfl rfl ?_
          refine R_nil ?_
          refine K_tn ?_
          first | have hst := ripestTo_t (by assumption) | have hst := ripestTo_f (by assumption)
          exact K_again (k + 1) (by omega) (by omega) (by repeat (first | exact trivial | refine ⟨rfl, ?_⟩ | refine ⟨(by rw [← hst]; rfl), ?_⟩)) (by repeat (first | exact .z | apply Rems.s Rem.z | apply Rems.s (Rem.s Rem.z) | apply Rems.s (Rem.s (Rem.s Rem.z)) | apply Rems.s (Rem.s (Rem.s (Rem.s Rem.z))) | apply Rems.s (Rem.s (Rem.s (Rem.s (Rem.s Rem.z)))) | apply Rems.s (Rem.s (Rem.s (Rem.s (Rem.s (Rem.s Rem.z))))) | apply Rems.s (Rem.s (Rem.s (Rem.s (Rem.s (Rem.s (Rem.s Rem.z)))))) | apply Rems.s (Rem.s (Rem.s (Rem.s (Rem.s (Rem.s (Rem.s (Rem.s Rem.z))))))) | apply Rems.s (Rem.s (Rem.s (Rem.s (Rem.s (Rem.s (Rem.s (Rem.s (Rem.s Rem.z)))))))) | apply Rems.s (Rem.s (Rem.s (Rem.s (Rem.s (Rem.s (Rem.s (Rem.s (Rem.s (Rem.s Rem.z)))))))))))
  · first
    | (exfalso; omega)
    |
      refine R_nil ?_
      refine K_tn ?_
      refine K_seq ?_
      refine K_cond_f rfl ?_
      refine K_exit ?_
      refine K_te ?_
      refine K_te ?_
      refine K_be ?_
      refine K_tn ?_
      refine K_seq ?_
      refine R_region ?_
      have hkn : k = n := by omega
      subst hkn
      refine r_move rfl rfl rfl ?_
      refine r_assign rfl rfl rfl ?_
      refine R_nil ?_
      refine K_tn ?_
      refine K_ret ?_
      refine K_done (H' := []) rfl rfl (.s (.tmp rfl) .z) (by repeat (first | exact .z | apply Rems.s Rem.z | apply Rems.s (Rem.s Rem.z) | apply Rems.s (Rem.s (Rem.s Rem.z)) | apply Rems.s (Rem.s (Rem.s (Rem.s Rem.z))) | apply Rems.s (Rem.s (Rem.s (Rem.s (Rem.s Rem.z)))) | apply Rems.s (Rem.s (Rem.s (Rem.s (Rem.s (Rem.s Rem.z))))) | apply Rems.s (Rem.s (Rem.s (Rem.s (Rem.s (Rem.s (Rem.s Rem.z)))))) | apply Rems.s (Rem.s (Rem.s (Rem.s (Rem.s (Rem.s (Rem.s (Rem.s Rem.z))))))) | apply Rems.s (Rem.s (Rem.s (Rem.s (Rem.s (Rem.s (Rem.s (Rem.s (Rem.s Rem.z)))))))) | apply Rems.s (Rem.s (Rem.s (Rem.s (Rem.s (Rem.s (Rem.s (Rem.s (Rem.s (Rem.s Rem.z))))))))))) ?_
      refine ⟨?_, rfl⟩
      rfl

set_option maxRecDepth 20000 in
theorem RipestOf_ok (n : Nat) (rs : List Nat) (hl : rs.length = 16) (hn : n ≤ 16) (hv : vCrate n rs = true) (hz : n ≠ 0) : SpecV Try.prog 68 [.agg (.int .i8 (n : Int) :: fl .f32 rs).toArray] [] (packV [.int .i64 (warmDay n rs : Int), .float .f32 (warmth n rs), .int .i64 (warmCode n rs)]) := by
  refine spec_of Try.func68 rfl Try.ntmps68 rfl (fun w0 => ?_)
  have hn2 : -128 ≤ (n : Int) ∧ (n : Int) ≤ 127 := by omega
  refine K_seq ?_
  refine R_region ?_
  refine r_box rfl rfl rfl rfl (fun b1 => ?_)
  refine r_assign rfl rfl rfl ?_
  refine r_assign rfl rfl rfl ?_
  refine r_assign rfl rfl rfl ?_
  refine R_nil ?_
  refine K_tn ?_
  refine K_seq ?_
  refine K_block ?_
  refine K_seq ?_
  refine R_region ?_
  refine r_loadA ag_54 sz_54 rfl rfl rfl (by first | exact .h .z | exact .h (.s .z) | exact .h (.s (.s .z)) | exact .h (.s (.s (.s .z))) | exact .h (.s (.s (.s (.s .z)))) | exact .h (.s (.s (.s (.s (.s .z))))) | exact .h (.s (.s (.s (.s (.s (.s .z)))))) | exact .h (.s (.s (.s (.s (.s (.s (.s .z))))))) | exact .h (.s (.s (.s (.s (.s (.s (.s (.s .z)))))))) | exact .x .z | exact .x (.s .z) | exact .x (.s (.s .z)) | exact .x (.s (.s (.s .z))) | exact .x (.s (.s (.s (.s .z)))) | exact .x (.s (.s (.s (.s (.s .z))))) | exact .x (.s (.s (.s (.s (.s (.s .z))))))) (by first | rfl | exact gC (by first | omega | (have h_r := ripestTo_lt rs k; omega) | (have h_r := ripestTo_lt rs n; omega)) | exact takeC (by omega) | exact takeC0 (by omega)) ?_
  refine s_callV cb_61 rfl rfl rfl rfl rfl (validCrate _ _ (by assumption) (by first | assumption | omega)) (by repeat (first | exact .z | refine .s (.h .z) ?_ | refine .s (.h (.s .z)) ?_ | refine .s (.h (.s (.s .z))) ?_ | refine .s (.h (.s (.s (.s .z)))) ?_ | refine .s (.h (.s (.s (.s (.s .z))))) ?_ | refine .s (.h (.s (.s (.s (.s (.s .z)))))) ?_ | refine .s (.h (.s (.s (.s (.s (.s (.s .z))))))) ?_ | refine .s (.h (.s (.s (.s (.s (.s (.s (.s .z)))))))) ?_ | refine .s (.h (.s (.s (.s (.s (.s (.s (.s (.s .z))))))))) ?_ | refine .s (.x .z) ?_ | refine .s (.x (.s .z)) ?_ | refine .s (.x (.s (.s .z))) ?_ | refine .s (.x (.s (.s (.s .z)))) ?_ | refine .s (.x (.s (.s (.s (.s .z))))) ?_ | refine .s (.x (.s (.s (.s (.s (.s .z)))))) ?_ | refine .s (.x (.s (.s (.s (.s (.s (.s .z))))))) ?_)) (fun h8 => ?_) (fun h8 => ?_)
  · first
    | (exfalso; first | (simp_all; done) | omega)
    |
      refine r_not rfl rfl rfl ?_
      refine r_assign rfl rfl rfl ?_
      refine R_nil ?_
      refine K_tn ?_
      refine K_cond_f rfl ?_
      refine K_seq ?_
      refine R_region ?_
      refine r_fieldAddr fd_54_0 rfl rfl rfl ?_
      refine r_load ag_22 rfl rfl rfl (by first | exact .h .z | exact .h (.s .z) | exact .h (.s (.s .z)) | exact .h (.s (.s (.s .z))) | exact .h (.s (.s (.s (.s .z)))) | exact .h (.s (.s (.s (.s (.s .z))))) | exact .h (.s (.s (.s (.s (.s (.s .z)))))) | exact .h (.s (.s (.s (.s (.s (.s (.s .z))))))) | exact .h (.s (.s (.s (.s (.s (.s (.s (.s .z)))))))) | exact .x .z | exact .x (.s .z) | exact .x (.s (.s .z)) | exact .x (.s (.s (.s .z))) | exact .x (.s (.s (.s (.s .z)))) | exact .x (.s (.s (.s (.s (.s .z))))) | exact .x (.s (.s (.s (.s (.s (.s .z))))))) (by first | rfl | exact gC (by first | omega | (have h_r := ripestTo_lt rs k; omega) | (have h_r := ripestTo_lt rs n; omega)) | exact takeC (by omega) | exact takeC0 (by omega)) ?_
      refine s_eql rfl rfl rfl rfl (fun h13 => ?_) (fun h13 => ?_)
      · first
        | (exfalso; first | (simp_all; done) | omega)
        |
          refine r_assign rfl rfl rfl ?_
          refine R_nil ?_
          refine K_tn ?_
          refine K_cond_t rfl ?_
          refine K_seq ?_
          refine R_region ?_
          refine r_assign rfl rfl rfl ?_
          refine r_assign rfl rfl rfl ?_
          refine r_assign rfl rfl rfl ?_
          refine R_nil ?_
          refine K_tn ?_
          refine K_ret ?_
          refine K_br ?_
          refine K_tr ?_
          refine K_done (H' := []) rfl rfl (.s (.tmp rfl) (.s (.tmp rfl) (.s (.tmp rfl) .z))) (by repeat (first | exact .z | apply Rems.s Rem.z | apply Rems.s (Rem.s Rem.z) | apply Rems.s (Rem.s (Rem.s Rem.z)) | apply Rems.s (Rem.s (Rem.s (Rem.s Rem.z))) | apply Rems.s (Rem.s (Rem.s (Rem.s (Rem.s Rem.z)))) | apply Rems.s (Rem.s (Rem.s (Rem.s (Rem.s (Rem.s Rem.z))))) | apply Rems.s (Rem.s (Rem.s (Rem.s (Rem.s (Rem.s (Rem.s Rem.z)))))) | apply Rems.s (Rem.s (Rem.s (Rem.s (Rem.s (Rem.s (Rem.s (Rem.s Rem.z))))))) | apply Rems.s (Rem.s (Rem.s (Rem.s (Rem.s (Rem.s (Rem.s (Rem.s (Rem.s Rem.z)))))))) | apply Rems.s (Rem.s (Rem.s (Rem.s (Rem.s (Rem.s (Rem.s (Rem.s (Rem.s (Rem.s Rem.z))))))))))) ?_
          refine ⟨?_, rfl⟩
          unfold warmDay warmth warmCode; simp_all [packV, -List.getD_eq_getElem?_getD]
      · first
        | (exfalso; first | (simp_all; done) | omega)
        |
          refine r_assign rfl rfl rfl ?_
          refine R_nil ?_
          refine K_tn ?_
          refine K_cond_f rfl ?_
          refine K_skip ?_
          refine K_bn ?_
          refine K_tn ?_
          refine K_seq ?_
          refine R_region ?_
          refine r_loadA ag_54 sz_54 rfl rfl rfl (by first | exact .h .z | exact .h (.s .z) | exact .h (.s (.s .z)) | exact .h (.s (.s (.s .z))) | exact .h (.s (.s (.s (.s .z)))) | exact .h (.s (.s (.s (.s (.s .z))))) | exact .h (.s (.s (.s (.s (.s (.s .z)))))) | exact .h (.s (.s (.s (.s (.s (.s (.s .z))))))) | exact .h (.s (.s (.s (.s (.s (.s (.s (.s .z)))))))) | exact .x .z | exact .x (.s .z) | exact .x (.s (.s .z)) | exact .x (.s (.s (.s .z))) | exact .x (.s (.s (.s (.s .z)))) | exact .x (.s (.s (.s (.s (.s .z))))) | exact .x (.s (.s (.s (.s (.s (.s .z))))))) (by first | rfl | exact gC (by first | omega | (have h_r := ripestTo_lt rs k; omega) | (have h_r := ripestTo_lt rs n; omega)) | exact takeC (by omega) | exact takeC0 (by omega)) ?_
          refine r_callV cb_94 rfl rfl rfl rfl rfl (ripest _ _ (by assumption) (by omega)) (by repeat (first | exact .z | refine .s (.h .z) ?_ | refine .s (.h (.s .z)) ?_ | refine .s (.h (.s (.s .z))) ?_ | refine .s (.h (.s (.s (.s .z)))) ?_ | refine .s (.h (.s (.s (.s (.s .z))))) ?_ | refine .s (.h (.s (.s (.s (.s (.s .z)))))) ?_ | refine .s (.h (.s (.s (.s (.s (.s (.s .z))))))) ?_ | refine .s (.h (.s (.s (.s (.s (.s (.s (.s .z)))))))) ?_ | refine .s (.h (.s (.s (.s (.s (.s (.s (.s (.s .z))))))))) ?_ | refine .s (.x .z) ?_ | refine .s (.x (.s .z)) ?_ | refine .s (.x (.s (.s .z))) ?_ | refine .s (.x (.s (.s (.s .z)))) ?_ | refine .s (.x (.s (.s (.s (.s .z))))) ?_ | refine .s (.x (.s (.s (.s (.s (.s .z)))))) ?_ | refine .s (.x (.s (.s (.s (.s (.s (.s .z))))))) ?_)) ?_
          refine r_assign rfl rfl rfl ?_
          refine R_nil ?_
          refine K_tn ?_
          refine K_seq ?_
          refine R_drawAll mixed (by kernel_rfl) ?_
          refine q_pure rfl rfl (p_move rfl) ?_
          refine q_pure rfl rfl (p_move rfl) ?_
          refine q_pure rfl rfl (p_fieldAddr fd_54_1 rfl) ?_
          refine q_pure rfl rfl (p_indexA ar_24 sz_23 rfl rfl (by first | omega | (have h_r := ripestTo_lt rs k; omega) | (have h_r := ripestTo_lt rs n; omega))) ?_
          refine q_pure rfl rfl (p_load ag_23 rfl (by first | exact .h .z | exact .h (.s .z) | exact .h (.s (.s .z)) | exact .h (.s (.s (.s .z))) | exact .h (.s (.s (.s (.s .z)))) | exact .h (.s (.s (.s (.s (.s .z))))) | exact .h (.s (.s (.s (.s (.s (.s .z)))))) | exact .h (.s (.s (.s (.s (.s (.s (.s .z))))))) | exact .h (.s (.s (.s (.s (.s (.s (.s (.s .z)))))))) | exact .x .z | exact .x (.s .z) | exact .x (.s (.s .z)) | exact .x (.s (.s (.s .z))) | exact .x (.s (.s (.s (.s .z)))) | exact .x (.s (.s (.s (.s (.s .z))))) | exact .x (.s (.s (.s (.s (.s (.s .z))))))) (by first | rfl | exact gC (by first | omega | (have h_r := ripestTo_lt rs k; omega) | (have h_r := ripestTo_lt rs n; omega)) | exact takeC (by omega) | exact takeC0 (by omega))) ?_
          refine q_pure rfl rfl (p_assign rfl) ?_
          refine q_pure rfl rfl (p_assign rfl) ?_
          refine q_pure rfl rfl (p_assign rfl) ?_
          refine q_nil ?_
          refine K_tn ?_
          refine K_ret ?_
          refine K_done (H' := []) rfl rfl (.s (.tmp rfl) (.s (.tmp rfl) (.s (.tmp rfl) .z))) (by repeat (first | exact .z | apply Rems.s Rem.z | apply Rems.s (Rem.s Rem.z) | apply Rems.s (Rem.s (Rem.s Rem.z)) | apply Rems.s (Rem.s (Rem.s (Rem.s Rem.z))) | apply Rems.s (Rem.s (Rem.s (Rem.s (Rem.s Rem.z)))) | apply Rems.s (Rem.s (Rem.s (Rem.s (Rem.s (Rem.s Rem.z))))) | apply Rems.s (Rem.s (Rem.s (Rem.s (Rem.s (Rem.s (Rem.s Rem.z)))))) | apply Rems.s (Rem.s (Rem.s (Rem.s (Rem.s (Rem.s (Rem.s (Rem.s Rem.z))))))) | apply Rems.s (Rem.s (Rem.s (Rem.s (Rem.s (Rem.s (Rem.s (Rem.s (Rem.s Rem.z)))))))) | apply Rems.s (Rem.s (Rem.s (Rem.s (Rem.s (Rem.s (Rem.s (Rem.s (Rem.s (Rem.s Rem.z))))))))))) ?_
          refine ⟨?_, rfl⟩
          unfold warmDay warmth warmCode; simp_all [packV, -List.getD_eq_getElem?_getD]
  · first
    | (exfalso; first | (simp_all; done) | omega)
    |
      refine r_not rfl rfl rfl ?_
      refine r_assign rfl rfl rfl ?_
      refine R_nil ?_
      refine K_tn ?_
      refine K_cond_t rfl ?_
      refine K_seq ?_
      refine R_region ?_
      refine r_assign rfl rfl rfl ?_
      refine r_assign rfl rfl rfl ?_
      refine r_assign rfl rfl rfl ?_
      refine R_nil ?_
      refine K_tn ?_
      refine K_ret ?_
      refine K_br ?_
      refine K_tr ?_
      refine K_done (H' := []) rfl rfl (.s (.tmp rfl) (.s (.tmp rfl) (.s (.tmp rfl) .z))) (by repeat (first | exact .z | apply Rems.s Rem.z | apply Rems.s (Rem.s Rem.z) | apply Rems.s (Rem.s (Rem.s Rem.z)) | apply Rems.s (Rem.s (Rem.s (Rem.s Rem.z))) | apply Rems.s (Rem.s (Rem.s (Rem.s (Rem.s Rem.z)))) | apply Rems.s (Rem.s (Rem.s (Rem.s (Rem.s (Rem.s Rem.z))))) | apply Rems.s (Rem.s (Rem.s (Rem.s (Rem.s (Rem.s (Rem.s Rem.z)))))) | apply Rems.s (Rem.s (Rem.s (Rem.s (Rem.s (Rem.s (Rem.s (Rem.s Rem.z))))))) | apply Rems.s (Rem.s (Rem.s (Rem.s (Rem.s (Rem.s (Rem.s (Rem.s (Rem.s Rem.z)))))))) | apply Rems.s (Rem.s (Rem.s (Rem.s (Rem.s (Rem.s (Rem.s (Rem.s (Rem.s (Rem.s Rem.z))))))))))) ?_
      refine ⟨?_, rfl⟩
      unfold warmDay warmth warmCode; simp_all [packV, -List.getD_eq_getElem?_getD]

set_option maxRecDepth 20000 in
theorem RipestOf_no (n : Int) (rs : List Nat) (hl : rs.length = 16) (hn : -128 ≤ n ∧ n ≤ 127) (hv : vCrate n rs = false ∨ n = 0) : SpecV Try.prog 68 [.agg (.int .i8 (n : Int) :: fl .f32 rs).toArray] [] (packV [.int .i64 (warmDay n rs : Int), .float .f32 (warmth n rs), .int .i64 (warmCode n rs)]) := by
  refine spec_of Try.func68 rfl Try.ntmps68 rfl (fun w0 => ?_)
  refine K_seq ?_
  refine R_region ?_
  refine r_box rfl rfl rfl rfl (fun b1 => ?_)
  refine r_assign rfl rfl rfl ?_
  refine r_assign rfl rfl rfl ?_
  refine r_assign rfl rfl rfl ?_
  refine R_nil ?_
  refine K_tn ?_
  refine K_seq ?_
  refine K_block ?_
  refine K_seq ?_
  refine R_region ?_
  refine r_loadA ag_54 sz_54 rfl rfl rfl (by first | exact .h .z | exact .h (.s .z) | exact .h (.s (.s .z)) | exact .h (.s (.s (.s .z))) | exact .h (.s (.s (.s (.s .z)))) | exact .h (.s (.s (.s (.s (.s .z))))) | exact .h (.s (.s (.s (.s (.s (.s .z)))))) | exact .h (.s (.s (.s (.s (.s (.s (.s .z))))))) | exact .h (.s (.s (.s (.s (.s (.s (.s (.s .z)))))))) | exact .x .z | exact .x (.s .z) | exact .x (.s (.s .z)) | exact .x (.s (.s (.s .z))) | exact .x (.s (.s (.s (.s .z)))) | exact .x (.s (.s (.s (.s (.s .z))))) | exact .x (.s (.s (.s (.s (.s (.s .z))))))) (by first | rfl | exact gC (by first | omega | (have h_r := ripestTo_lt rs k; omega) | (have h_r := ripestTo_lt rs n; omega)) | exact takeC (by omega) | exact takeC0 (by omega)) ?_
  refine s_callV cb_61 rfl rfl rfl rfl rfl (validCrate _ _ (by assumption) (by first | assumption | omega)) (by repeat (first | exact .z | refine .s (.h .z) ?_ | refine .s (.h (.s .z)) ?_ | refine .s (.h (.s (.s .z))) ?_ | refine .s (.h (.s (.s (.s .z)))) ?_ | refine .s (.h (.s (.s (.s (.s .z))))) ?_ | refine .s (.h (.s (.s (.s (.s (.s .z)))))) ?_ | refine .s (.h (.s (.s (.s (.s (.s (.s .z))))))) ?_ | refine .s (.h (.s (.s (.s (.s (.s (.s (.s .z)))))))) ?_ | refine .s (.h (.s (.s (.s (.s (.s (.s (.s (.s .z))))))))) ?_ | refine .s (.x .z) ?_ | refine .s (.x (.s .z)) ?_ | refine .s (.x (.s (.s .z))) ?_ | refine .s (.x (.s (.s (.s .z)))) ?_ | refine .s (.x (.s (.s (.s (.s .z))))) ?_ | refine .s (.x (.s (.s (.s (.s (.s .z)))))) ?_ | refine .s (.x (.s (.s (.s (.s (.s (.s .z))))))) ?_)) (fun h8 => ?_) (fun h8 => ?_)
  · first
    | (exfalso; first | (simp_all; done) | omega)
    |
      refine r_not rfl rfl rfl ?_
      refine r_assign rfl rfl rfl ?_
      refine R_nil ?_
      refine K_tn ?_
      refine K_cond_f rfl ?_
      refine K_seq ?_
      refine R_region ?_
      refine r_fieldAddr fd_54_0 rfl rfl rfl ?_
      refine r_load ag_22 rfl rfl rfl (by first | exact .h .z | exact .h (.s .z) | exact .h (.s (.s .z)) | exact .h (.s (.s (.s .z))) | exact .h (.s (.s (.s (.s .z)))) | exact .h (.s (.s (.s (.s (.s .z))))) | exact .h (.s (.s (.s (.s (.s (.s .z)))))) | exact .h (.s (.s (.s (.s (.s (.s (.s .z))))))) | exact .h (.s (.s (.s (.s (.s (.s (.s (.s .z)))))))) | exact .x .z | exact .x (.s .z) | exact .x (.s (.s .z)) | exact .x (.s (.s (.s .z))) | exact .x (.s (.s (.s (.s .z)))) | exact .x (.s (.s (.s (.s (.s .z))))) | exact .x (.s (.s (.s (.s (.s (.s .z))))))) (by first | rfl | exact gC (by first | omega | (have h_r := ripestTo_lt rs k; omega) | (have h_r := ripestTo_lt rs n; omega)) | exact takeC (by omega) | exact takeC0 (by omega)) ?_
      refine s_eql rfl rfl rfl rfl (fun h13 => ?_) (fun h13 => ?_)
      · first
        | (exfalso; first | (simp_all; done) | omega)
        |
          refine r_assign rfl rfl rfl ?_
          refine R_nil ?_
          refine K_tn ?_
          refine K_cond_t rfl ?_
          refine K_seq ?_
          refine R_region ?_
          refine r_assign rfl rfl rfl ?_
          refine r_assign rfl rfl rfl ?_
          refine r_assign rfl rfl rfl ?_
          refine R_nil ?_
          refine K_tn ?_
          refine K_ret ?_
          refine K_br ?_
          refine K_tr ?_
          refine K_done (H' := []) rfl rfl (.s (.tmp rfl) (.s (.tmp rfl) (.s (.tmp rfl) .z))) (by repeat (first | exact .z | apply Rems.s Rem.z | apply Rems.s (Rem.s Rem.z) | apply Rems.s (Rem.s (Rem.s Rem.z)) | apply Rems.s (Rem.s (Rem.s (Rem.s Rem.z))) | apply Rems.s (Rem.s (Rem.s (Rem.s (Rem.s Rem.z)))) | apply Rems.s (Rem.s (Rem.s (Rem.s (Rem.s (Rem.s Rem.z))))) | apply Rems.s (Rem.s (Rem.s (Rem.s (Rem.s (Rem.s (Rem.s Rem.z)))))) | apply Rems.s (Rem.s (Rem.s (Rem.s (Rem.s (Rem.s (Rem.s (Rem.s Rem.z))))))) | apply Rems.s (Rem.s (Rem.s (Rem.s (Rem.s (Rem.s (Rem.s (Rem.s (Rem.s Rem.z)))))))) | apply Rems.s (Rem.s (Rem.s (Rem.s (Rem.s (Rem.s (Rem.s (Rem.s (Rem.s (Rem.s Rem.z))))))))))) ?_
          refine ⟨?_, rfl⟩
          rcases hv with hv | hv <;> unfold warmDay warmth warmCode <;> simp_all [packV, ripestTo, -List.getD_eq_getElem?_getD]
      · first
        | (exfalso; first | (simp_all; done) | omega)
        |
          refine r_assign rfl rfl rfl ?_
          refine R_nil ?_
          refine K_tn ?_
          refine K_cond_f rfl ?_
          refine K_skip ?_
          refine K_bn ?_
          refine K_tn ?_
          refine K_seq ?_
          refine R_region ?_
          refine r_loadA ag_54 sz_54 rfl rfl rfl (by first | exact .h .z | exact .h (.s .z) | exact .h (.s (.s .z)) | exact .h (.s (.s (.s .z))) | exact .h (.s (.s (.s (.s .z)))) | exact .h (.s (.s (.s (.s (.s .z))))) | exact .h (.s (.s (.s (.s (.s (.s .z)))))) | exact .h (.s (.s (.s (.s (.s (.s (.s .z))))))) | exact .h (.s (.s (.s (.s (.s (.s (.s (.s .z)))))))) | exact .x .z | exact .x (.s .z) | exact .x (.s (.s .z)) | exact .x (.s (.s (.s .z))) | exact .x (.s (.s (.s (.s .z)))) | exact .x (.s (.s (.s (.s (.s .z))))) | exact .x (.s (.s (.s (.s (.s (.s .z))))))) (by first | rfl | exact gC (by first | omega | (have h_r := ripestTo_lt rs k; omega) | (have h_r := ripestTo_lt rs n; omega)) | exact takeC (by omega) | exact takeC0 (by omega)) ?_
          refine r_callV cb_94 rfl rfl rfl rfl rfl (ripest _ _ (by assumption) (by exfalso; first | (simp_all; done) | omega)) (by repeat (first | exact .z | refine .s (.h .z) ?_ | refine .s (.h (.s .z)) ?_ | refine .s (.h (.s (.s .z))) ?_ | refine .s (.h (.s (.s (.s .z)))) ?_ | refine .s (.h (.s (.s (.s (.s .z))))) ?_ | refine .s (.h (.s (.s (.s (.s (.s .z)))))) ?_ | refine .s (.h (.s (.s (.s (.s (.s (.s .z))))))) ?_ | refine .s (.h (.s (.s (.s (.s (.s (.s (.s .z)))))))) ?_ | refine .s (.h (.s (.s (.s (.s (.s (.s (.s (.s .z))))))))) ?_ | refine .s (.x .z) ?_ | refine .s (.x (.s .z)) ?_ | refine .s (.x (.s (.s .z))) ?_ | refine .s (.x (.s (.s (.s .z)))) ?_ | refine .s (.x (.s (.s (.s (.s .z))))) ?_ | refine .s (.x (.s (.s (.s (.s (.s .z)))))) ?_ | refine .s (.x (.s (.s (.s (.s (.s (.s .z))))))) ?_)) ?_
          refine r_assign rfl rfl rfl ?_
          refine R_nil ?_
          refine K_tn ?_
          refine K_seq ?_
          refine R_drawAll mixed (by kernel_rfl) ?_
          refine q_pure rfl rfl (p_move rfl) ?_
          refine q_pure rfl rfl (p_move rfl) ?_
          refine q_pure rfl rfl (p_fieldAddr fd_54_1 rfl) ?_
          refine q_pure rfl rfl (p_indexA ar_24 sz_23 rfl rfl (by first | omega | (have h_r := ripestTo_lt rs k; omega) | (have h_r := ripestTo_lt rs n; omega))) ?_
          refine q_pure rfl rfl (p_load ag_23 rfl (by first | exact .h .z | exact .h (.s .z) | exact .h (.s (.s .z)) | exact .h (.s (.s (.s .z))) | exact .h (.s (.s (.s (.s .z)))) | exact .h (.s (.s (.s (.s (.s .z))))) | exact .h (.s (.s (.s (.s (.s (.s .z)))))) | exact .h (.s (.s (.s (.s (.s (.s (.s .z))))))) | exact .h (.s (.s (.s (.s (.s (.s (.s (.s .z)))))))) | exact .x .z | exact .x (.s .z) | exact .x (.s (.s .z)) | exact .x (.s (.s (.s .z))) | exact .x (.s (.s (.s (.s .z)))) | exact .x (.s (.s (.s (.s (.s .z))))) | exact .x (.s (.s (.s (.s (.s (.s .z))))))) (by first | rfl | exact gC (by first | omega | (have h_r := ripestTo_lt rs k; omega) | (have h_r := ripestTo_lt rs n; omega)) | exact takeC (by omega) | exact takeC0 (by omega))) ?_
          refine q_pure rfl rfl (p_assign rfl) ?_
          refine q_pure rfl rfl (p_assign rfl) ?_
          refine q_pure rfl rfl (p_assign rfl) ?_
          refine q_nil ?_
          refine K_tn ?_
          refine K_ret ?_
          refine K_done (H' := []) rfl rfl (.s (.tmp rfl) (.s (.tmp rfl) (.s (.tmp rfl) .z))) (by repeat (first | exact .z | apply Rems.s Rem.z | apply Rems.s (Rem.s Rem.z) | apply Rems.s (Rem.s (Rem.s Rem.z)) | apply Rems.s (Rem.s (Rem.s (Rem.s Rem.z))) | apply Rems.s (Rem.s (Rem.s (Rem.s (Rem.s Rem.z)))) | apply Rems.s (Rem.s (Rem.s (Rem.s (Rem.s (Rem.s Rem.z))))) | apply Rems.s (Rem.s (Rem.s (Rem.s (Rem.s (Rem.s (Rem.s Rem.z)))))) | apply Rems.s (Rem.s (Rem.s (Rem.s (Rem.s (Rem.s (Rem.s (Rem.s Rem.z))))))) | apply Rems.s (Rem.s (Rem.s (Rem.s (Rem.s (Rem.s (Rem.s (Rem.s (Rem.s Rem.z)))))))) | apply Rems.s (Rem.s (Rem.s (Rem.s (Rem.s (Rem.s (Rem.s (Rem.s (Rem.s (Rem.s Rem.z))))))))))) ?_
          refine ⟨?_, rfl⟩
          rcases hv with hv | hv <;> unfold warmDay warmth warmCode <;> simp_all [packV, ripestTo, -List.getD_eq_getElem?_getD]
  · first
    | (exfalso; first | (simp_all; done) | omega)
    |
      refine r_not rfl rfl rfl ?_
      refine r_assign rfl rfl rfl ?_
      refine R_nil ?_
      refine K_tn ?_
      refine K_cond_t rfl ?_
      refine K_seq ?_
      refine R_region ?_
      refine r_assign rfl rfl rfl ?_
      refine r_assign rfl rfl rfl ?_
      refine r_assign rfl rfl rfl ?_
      refine R_nil ?_
      refine K_tn ?_
      refine K_ret ?_
      refine K_br ?_
      refine K_tr ?_
      refine K_done (H' := []) rfl rfl (.s (.tmp rfl) (.s (.tmp rfl) (.s (.tmp rfl) .z))) (by repeat (first | exact .z | apply Rems.s Rem.z | apply Rems.s (Rem.s Rem.z) | apply Rems.s (Rem.s (Rem.s Rem.z)) | apply Rems.s (Rem.s (Rem.s (Rem.s Rem.z))) | apply Rems.s (Rem.s (Rem.s (Rem.s (Rem.s Rem.z)))) | apply Rems.s (Rem.s (Rem.s (Rem.s (Rem.s (Rem.s Rem.z))))) | apply Rems.s (Rem.s (Rem.s (Rem.s (Rem.s (Rem.s (Rem.s Rem.z)))))) | apply Rems.s (Rem.s (Rem.s (Rem.s (Rem.s (Rem.s (Rem.s (Rem.s Rem.z))))))) | apply Rems.s (Rem.s (Rem.s (Rem.s (Rem.s (Rem.s (Rem.s (Rem.s (Rem.s Rem.z)))))))) | apply Rems.s (Rem.s (Rem.s (Rem.s (Rem.s (Rem.s (Rem.s (Rem.s (Rem.s (Rem.s Rem.z))))))))))) ?_
      refine ⟨?_, rfl⟩
      rcases hv with hv | hv <;> unfold warmDay warmth warmCode <;> simp_all [packV, ripestTo, -List.getD_eq_getElem?_getD]

theorem RipestOf (n : Int) (rs : List Nat) (hl : rs.length = 16) (hn : -128 ≤ n ∧ n ≤ 127) : SpecV Try.prog 68 [.agg (.int .i8 (n : Int) :: fl .f32 rs).toArray] [] (packV [.int .i64 (warmDay n rs : Int), .float .f32 (warmth n rs), .int .i64 (warmCode n rs)]) := by
  by_cases h : vCrate n rs = false ∨ n = 0
  · exact RipestOf_no n rs hl hn h
  · have hv : vCrate n rs = true := by cases hc : vCrate n rs with
      | true => rfl
      | false => exact absurd (.inl hc) h
    have h0 := vCrate_in hv
    obtain ⟨m, rfl⟩ := Int.eq_ofNat_of_zero_le h0.1
    exact RipestOf_ok m rs hl (by omega) hv (fun hm => h (.inr (by omega)))

set_option maxRecDepth 20000 in
theorem impl_WarmestDay_ok (n : Nat) (rs : List Nat) (hl : rs.length = 16) (hn : n ≤ 16) (hv : vCrate n rs = true) (hz : n ≠ 0) : SpecV Try.prog 26 [.agg (.int .i8 (n : Int) :: fl .f32 rs).toArray] [] (packV [.int .i64 (warmDay n rs : Int), .float .f32 (warmth n rs), .int .i64 (warmCode n rs)]) := by
  refine spec_of Try.func26 rfl Try.ntmps26 rfl (fun w0 => ?_)
  have hn2 : -128 ≤ (n : Int) ∧ (n : Int) ≤ 127 := by omega
  refine K_seq ?_
  refine R_region ?_
  refine r_box rfl rfl rfl rfl (fun b1 => ?_)
  refine r_assign rfl rfl rfl ?_
  refine r_assign rfl rfl rfl ?_
  refine r_assign rfl rfl rfl ?_
  refine R_nil ?_
  refine K_tn ?_
  refine K_seq ?_
  refine K_seq ?_
  refine R_region ?_
  refine r_loadA ag_28 sz_28 rfl rfl rfl (by first | exact .h .z | exact .h (.s .z) | exact .h (.s (.s .z)) | exact .h (.s (.s (.s .z))) | exact .h (.s (.s (.s (.s .z)))) | exact .h (.s (.s (.s (.s (.s .z))))) | exact .h (.s (.s (.s (.s (.s (.s .z)))))) | exact .h (.s (.s (.s (.s (.s (.s (.s .z))))))) | exact .h (.s (.s (.s (.s (.s (.s (.s (.s .z)))))))) | exact .x .z | exact .x (.s .z) | exact .x (.s (.s .z)) | exact .x (.s (.s (.s .z))) | exact .x (.s (.s (.s (.s .z)))) | exact .x (.s (.s (.s (.s (.s .z))))) | exact .x (.s (.s (.s (.s (.s (.s .z))))))) (by first | rfl | exact gC (by first | omega | (have h_r := ripestTo_lt rs k; omega) | (have h_r := ripestTo_lt rs n; omega)) | exact takeC (by omega) | exact takeC0 (by omega)) ?_
  refine s_callV cb_21 rfl rfl rfl rfl rfl (impl_ValidVoyage _ _ (by assumption) (by first | assumption | omega)) (by repeat (first | exact .z | refine .s (.h .z) ?_ | refine .s (.h (.s .z)) ?_ | refine .s (.h (.s (.s .z))) ?_ | refine .s (.h (.s (.s (.s .z)))) ?_ | refine .s (.h (.s (.s (.s (.s .z))))) ?_ | refine .s (.h (.s (.s (.s (.s (.s .z)))))) ?_ | refine .s (.h (.s (.s (.s (.s (.s (.s .z))))))) ?_ | refine .s (.h (.s (.s (.s (.s (.s (.s (.s .z)))))))) ?_ | refine .s (.h (.s (.s (.s (.s (.s (.s (.s (.s .z))))))))) ?_ | refine .s (.x .z) ?_ | refine .s (.x (.s .z)) ?_ | refine .s (.x (.s (.s .z))) ?_ | refine .s (.x (.s (.s (.s .z)))) ?_ | refine .s (.x (.s (.s (.s (.s .z))))) ?_ | refine .s (.x (.s (.s (.s (.s (.s .z)))))) ?_ | refine .s (.x (.s (.s (.s (.s (.s (.s .z))))))) ?_)) (fun h6 => ?_) (fun h6 => ?_)
  · first
    | (exfalso; first | (simp_all; done) | omega)
    |
      refine r_not rfl rfl rfl ?_
      refine R_nil ?_
      refine K_tn ?_
      refine K_cond_f rfl ?_
      refine K_skip ?_
      refine K_tn ?_
      refine K_seq ?_
      refine R_region ?_
      refine r_fieldAddr fd_28_0 rfl rfl rfl ?_
      refine r_load ag_22 rfl rfl rfl (by first | exact .h .z | exact .h (.s .z) | exact .h (.s (.s .z)) | exact .h (.s (.s (.s .z))) | exact .h (.s (.s (.s (.s .z)))) | exact .h (.s (.s (.s (.s (.s .z))))) | exact .h (.s (.s (.s (.s (.s (.s .z)))))) | exact .h (.s (.s (.s (.s (.s (.s (.s .z))))))) | exact .h (.s (.s (.s (.s (.s (.s (.s (.s .z)))))))) | exact .x .z | exact .x (.s .z) | exact .x (.s (.s .z)) | exact .x (.s (.s (.s .z))) | exact .x (.s (.s (.s (.s .z)))) | exact .x (.s (.s (.s (.s (.s .z))))) | exact .x (.s (.s (.s (.s (.s (.s .z))))))) (by first | rfl | exact gC (by first | omega | (have h_r := ripestTo_lt rs k; omega) | (have h_r := ripestTo_lt rs n; omega)) | exact takeC (by omega) | exact takeC0 (by omega)) ?_
      refine r_fieldAddr fd_28_1 rfl rfl rfl ?_
      refine r_loadA ag_24 sz_24 rfl rfl rfl (by first | exact .h .z | exact .h (.s .z) | exact .h (.s (.s .z)) | exact .h (.s (.s (.s .z))) | exact .h (.s (.s (.s (.s .z)))) | exact .h (.s (.s (.s (.s (.s .z))))) | exact .h (.s (.s (.s (.s (.s (.s .z)))))) | exact .h (.s (.s (.s (.s (.s (.s (.s .z))))))) | exact .h (.s (.s (.s (.s (.s (.s (.s (.s .z)))))))) | exact .x .z | exact .x (.s .z) | exact .x (.s (.s .z)) | exact .x (.s (.s (.s .z))) | exact .x (.s (.s (.s (.s .z)))) | exact .x (.s (.s (.s (.s (.s .z))))) | exact .x (.s (.s (.s (.s (.s (.s .z))))))) (by first | rfl | exact gC (by first | omega | (have h_r := ripestTo_lt rs k; omega) | (have h_r := ripestTo_lt rs n; omega)) | exact takeC (by omega) | exact takeC0 (by omega)) ?_
      refine op_pure rfl rfl (p_build zr_54 pl_54 al_54 rfl (by first | rfl | exact bdC (by assumption) rfl)) ?_
      refine r_callV cb_68 rfl rfl rfl rfl rfl (RipestOf _ _ (by assumption) (by first | assumption | omega)) (by repeat (first | exact .z | refine .s (.h .z) ?_ | refine .s (.h (.s .z)) ?_ | refine .s (.h (.s (.s .z))) ?_ | refine .s (.h (.s (.s (.s .z)))) ?_ | refine .s (.h (.s (.s (.s (.s .z))))) ?_ | refine .s (.h (.s (.s (.s (.s (.s .z)))))) ?_ | refine .s (.h (.s (.s (.s (.s (.s (.s .z))))))) ?_ | refine .s (.h (.s (.s (.s (.s (.s (.s (.s .z)))))))) ?_ | refine .s (.h (.s (.s (.s (.s (.s (.s (.s (.s .z))))))))) ?_ | refine .s (.x .z) ?_ | refine .s (.x (.s .z)) ?_ | refine .s (.x (.s (.s .z))) ?_ | refine .s (.x (.s (.s (.s .z)))) ?_ | refine .s (.x (.s (.s (.s (.s .z))))) ?_ | refine .s (.x (.s (.s (.s (.s (.s .z)))))) ?_ | refine .s (.x (.s (.s (.s (.s (.s (.s .z))))))) ?_)) ?_
      refine r_extract rfl rfl rfl rfl ?_
      refine r_extract rfl rfl rfl rfl ?_
      refine r_extract rfl rfl rfl rfl ?_
      refine r_assign rfl rfl rfl ?_
      refine r_assign rfl rfl rfl ?_
      refine r_assign rfl rfl rfl ?_
      refine R_nil ?_
      refine K_tn ?_
      refine K_ret ?_
      refine K_done (H' := []) rfl rfl (.s (.tmp rfl) (.s (.tmp rfl) (.s (.tmp rfl) .z))) (by repeat (first | exact .z | apply Rems.s Rem.z | apply Rems.s (Rem.s Rem.z) | apply Rems.s (Rem.s (Rem.s Rem.z)) | apply Rems.s (Rem.s (Rem.s (Rem.s Rem.z))) | apply Rems.s (Rem.s (Rem.s (Rem.s (Rem.s Rem.z)))) | apply Rems.s (Rem.s (Rem.s (Rem.s (Rem.s (Rem.s Rem.z))))) | apply Rems.s (Rem.s (Rem.s (Rem.s (Rem.s (Rem.s (Rem.s Rem.z)))))) | apply Rems.s (Rem.s (Rem.s (Rem.s (Rem.s (Rem.s (Rem.s (Rem.s Rem.z))))))) | apply Rems.s (Rem.s (Rem.s (Rem.s (Rem.s (Rem.s (Rem.s (Rem.s (Rem.s Rem.z)))))))) | apply Rems.s (Rem.s (Rem.s (Rem.s (Rem.s (Rem.s (Rem.s (Rem.s (Rem.s (Rem.s Rem.z))))))))))) ?_
      refine ⟨?_, rfl⟩
      unfold warmDay warmth warmCode; simp_all [packV, -List.getD_eq_getElem?_getD]
  · first
    | (exfalso; first | (simp_all; done) | omega)
    |
      refine r_not rfl rfl rfl ?_
      refine R_nil ?_
      refine K_tn ?_
      refine K_cond_t rfl ?_
      refine K_seq ?_
      refine R_region ?_
      refine r_assign rfl rfl rfl ?_
      refine r_assign rfl rfl rfl ?_
      refine r_assign rfl rfl rfl ?_
      refine R_nil ?_
      refine K_tn ?_
      refine K_ret ?_
      refine K_tr ?_
      refine K_done (H' := []) rfl rfl (.s (.tmp rfl) (.s (.tmp rfl) (.s (.tmp rfl) .z))) (by repeat (first | exact .z | apply Rems.s Rem.z | apply Rems.s (Rem.s Rem.z) | apply Rems.s (Rem.s (Rem.s Rem.z)) | apply Rems.s (Rem.s (Rem.s (Rem.s Rem.z))) | apply Rems.s (Rem.s (Rem.s (Rem.s (Rem.s Rem.z)))) | apply Rems.s (Rem.s (Rem.s (Rem.s (Rem.s (Rem.s Rem.z))))) | apply Rems.s (Rem.s (Rem.s (Rem.s (Rem.s (Rem.s (Rem.s Rem.z)))))) | apply Rems.s (Rem.s (Rem.s (Rem.s (Rem.s (Rem.s (Rem.s (Rem.s Rem.z))))))) | apply Rems.s (Rem.s (Rem.s (Rem.s (Rem.s (Rem.s (Rem.s (Rem.s (Rem.s Rem.z)))))))) | apply Rems.s (Rem.s (Rem.s (Rem.s (Rem.s (Rem.s (Rem.s (Rem.s (Rem.s (Rem.s Rem.z))))))))))) ?_
      refine ⟨?_, rfl⟩
      unfold warmDay warmth warmCode; simp_all [packV, -List.getD_eq_getElem?_getD]

set_option maxRecDepth 20000 in
theorem impl_WarmestDay_no (n : Int) (rs : List Nat) (hl : rs.length = 16) (hn : -128 ≤ n ∧ n ≤ 127) (hv : vCrate n rs = false ∨ n = 0) : SpecV Try.prog 26 [.agg (.int .i8 (n : Int) :: fl .f32 rs).toArray] [] (packV [.int .i64 (warmDay n rs : Int), .float .f32 (warmth n rs), .int .i64 (warmCode n rs)]) := by
  refine spec_of Try.func26 rfl Try.ntmps26 rfl (fun w0 => ?_)
  refine K_seq ?_
  refine R_region ?_
  refine r_box rfl rfl rfl rfl (fun b1 => ?_)
  refine r_assign rfl rfl rfl ?_
  refine r_assign rfl rfl rfl ?_
  refine r_assign rfl rfl rfl ?_
  refine R_nil ?_
  refine K_tn ?_
  refine K_seq ?_
  refine K_seq ?_
  refine R_region ?_
  refine r_loadA ag_28 sz_28 rfl rfl rfl (by first | exact .h .z | exact .h (.s .z) | exact .h (.s (.s .z)) | exact .h (.s (.s (.s .z))) | exact .h (.s (.s (.s (.s .z)))) | exact .h (.s (.s (.s (.s (.s .z))))) | exact .h (.s (.s (.s (.s (.s (.s .z)))))) | exact .h (.s (.s (.s (.s (.s (.s (.s .z))))))) | exact .h (.s (.s (.s (.s (.s (.s (.s (.s .z)))))))) | exact .x .z | exact .x (.s .z) | exact .x (.s (.s .z)) | exact .x (.s (.s (.s .z))) | exact .x (.s (.s (.s (.s .z)))) | exact .x (.s (.s (.s (.s (.s .z))))) | exact .x (.s (.s (.s (.s (.s (.s .z))))))) (by first | rfl | exact gC (by first | omega | (have h_r := ripestTo_lt rs k; omega) | (have h_r := ripestTo_lt rs n; omega)) | exact takeC (by omega) | exact takeC0 (by omega)) ?_
  refine s_callV cb_21 rfl rfl rfl rfl rfl (impl_ValidVoyage _ _ (by assumption) (by first | assumption | omega)) (by repeat (first | exact .z | refine .s (.h .z) ?_ | refine .s (.h (.s .z)) ?_ | refine .s (.h (.s (.s .z))) ?_ | refine .s (.h (.s (.s (.s .z)))) ?_ | refine .s (.h (.s (.s (.s (.s .z))))) ?_ | refine .s (.h (.s (.s (.s (.s (.s .z)))))) ?_ | refine .s (.h (.s (.s (.s (.s (.s (.s .z))))))) ?_ | refine .s (.h (.s (.s (.s (.s (.s (.s (.s .z)))))))) ?_ | refine .s (.h (.s (.s (.s (.s (.s (.s (.s (.s .z))))))))) ?_ | refine .s (.x .z) ?_ | refine .s (.x (.s .z)) ?_ | refine .s (.x (.s (.s .z))) ?_ | refine .s (.x (.s (.s (.s .z)))) ?_ | refine .s (.x (.s (.s (.s (.s .z))))) ?_ | refine .s (.x (.s (.s (.s (.s (.s .z)))))) ?_ | refine .s (.x (.s (.s (.s (.s (.s (.s .z))))))) ?_)) (fun h6 => ?_) (fun h6 => ?_)
  · first
    | (exfalso; first | (simp_all; done) | omega)
    |
      refine r_not rfl rfl rfl ?_
      refine R_nil ?_
      refine K_tn ?_
      refine K_cond_f rfl ?_
      refine K_skip ?_
      refine K_tn ?_
      refine K_seq ?_
      refine R_region ?_
      refine r_fieldAddr fd_28_0 rfl rfl rfl ?_
      refine r_load ag_22 rfl rfl rfl (by first | exact .h .z | exact .h (.s .z) | exact .h (.s (.s .z)) | exact .h (.s (.s (.s .z))) | exact .h (.s (.s (.s (.s .z)))) | exact .h (.s (.s (.s (.s (.s .z))))) | exact .h (.s (.s (.s (.s (.s (.s .z)))))) | exact .h (.s (.s (.s (.s (.s (.s (.s .z))))))) | exact .h (.s (.s (.s (.s (.s (.s (.s (.s .z)))))))) | exact .x .z | exact .x (.s .z) | exact .x (.s (.s .z)) | exact .x (.s (.s (.s .z))) | exact .x (.s (.s (.s (.s .z)))) | exact .x (.s (.s (.s (.s (.s .z))))) | exact .x (.s (.s (.s (.s (.s (.s .z))))))) (by first | rfl | exact gC (by first | omega | (have h_r := ripestTo_lt rs k; omega) | (have h_r := ripestTo_lt rs n; omega)) | exact takeC (by omega) | exact takeC0 (by omega)) ?_
      refine r_fieldAddr fd_28_1 rfl rfl rfl ?_
      refine r_loadA ag_24 sz_24 rfl rfl rfl (by first | exact .h .z | exact .h (.s .z) | exact .h (.s (.s .z)) | exact .h (.s (.s (.s .z))) | exact .h (.s (.s (.s (.s .z)))) | exact .h (.s (.s (.s (.s (.s .z))))) | exact .h (.s (.s (.s (.s (.s (.s .z)))))) | exact .h (.s (.s (.s (.s (.s (.s (.s .z))))))) | exact .h (.s (.s (.s (.s (.s (.s (.s (.s .z)))))))) | exact .x .z | exact .x (.s .z) | exact .x (.s (.s .z)) | exact .x (.s (.s (.s .z))) | exact .x (.s (.s (.s (.s .z)))) | exact .x (.s (.s (.s (.s (.s .z))))) | exact .x (.s (.s (.s (.s (.s (.s .z))))))) (by first | rfl | exact gC (by first | omega | (have h_r := ripestTo_lt rs k; omega) | (have h_r := ripestTo_lt rs n; omega)) | exact takeC (by omega) | exact takeC0 (by omega)) ?_
      refine op_pure rfl rfl (p_build zr_54 pl_54 al_54 rfl (by first | rfl | exact bdC (by assumption) rfl)) ?_
      refine r_callV cb_68 rfl rfl rfl rfl rfl (RipestOf _ _ (by assumption) (by first | assumption | omega)) (by repeat (first | exact .z | refine .s (.h .z) ?_ | refine .s (.h (.s .z)) ?_ | refine .s (.h (.s (.s .z))) ?_ | refine .s (.h (.s (.s (.s .z)))) ?_ | refine .s (.h (.s (.s (.s (.s .z))))) ?_ | refine .s (.h (.s (.s (.s (.s (.s .z)))))) ?_ | refine .s (.h (.s (.s (.s (.s (.s (.s .z))))))) ?_ | refine .s (.h (.s (.s (.s (.s (.s (.s (.s .z)))))))) ?_ | refine .s (.h (.s (.s (.s (.s (.s (.s (.s (.s .z))))))))) ?_ | refine .s (.x .z) ?_ | refine .s (.x (.s .z)) ?_ | refine .s (.x (.s (.s .z))) ?_ | refine .s (.x (.s (.s (.s .z)))) ?_ | refine .s (.x (.s (.s (.s (.s .z))))) ?_ | refine .s (.x (.s (.s (.s (.s (.s .z)))))) ?_ | refine .s (.x (.s (.s (.s (.s (.s (.s .z))))))) ?_)) ?_
      refine r_extract rfl rfl rfl rfl ?_
      refine r_extract rfl rfl rfl rfl ?_
      refine r_extract rfl rfl rfl rfl ?_
      refine r_assign rfl rfl rfl ?_
      refine r_assign rfl rfl rfl ?_
      refine r_assign rfl rfl rfl ?_
      refine R_nil ?_
      refine K_tn ?_
      refine K_ret ?_
      refine K_done (H' := []) rfl rfl (.s (.tmp rfl) (.s (.tmp rfl) (.s (.tmp rfl) .z))) (by repeat (first | exact .z | apply Rems.s Rem.z | apply Rems.s (Rem.s Rem.z) | apply Rems.s (Rem.s (Rem.s Rem.z)) | apply Rems.s (Rem.s (Rem.s (Rem.s Rem.z))) | apply Rems.s (Rem.s (Rem.s (Rem.s (Rem.s Rem.z)))) | apply Rems.s (Rem.s (Rem.s (Rem.s (Rem.s (Rem.s Rem.z))))) | apply Rems.s (Rem.s (Rem.s (Rem.s (Rem.s (Rem.s (Rem.s Rem.z)))))) | apply Rems.s (Rem.s (Rem.s (Rem.s (Rem.s (Rem.s (Rem.s (Rem.s Rem.z))))))) | apply Rems.s (Rem.s (Rem.s (Rem.s (Rem.s (Rem.s (Rem.s (Rem.s (Rem.s Rem.z)))))))) | apply Rems.s (Rem.s (Rem.s (Rem.s (Rem.s (Rem.s (Rem.s (Rem.s (Rem.s (Rem.s Rem.z))))))))))) ?_
      refine ⟨?_, rfl⟩
      rcases hv with hv | hv <;> unfold warmDay warmth warmCode <;> simp_all [packV, ripestTo, -List.getD_eq_getElem?_getD]
  · first
    | (exfalso; first | (simp_all; done) | omega)
    |
      refine r_not rfl rfl rfl ?_
      refine R_nil ?_
      refine K_tn ?_
      refine K_cond_t rfl ?_
      refine K_seq ?_
      refine R_region ?_
      refine r_assign rfl rfl rfl ?_
      refine r_assign rfl rfl rfl ?_
      refine r_assign rfl rfl rfl ?_
      refine R_nil ?_
      refine K_tn ?_
      refine K_ret ?_
      refine K_tr ?_
      refine K_done (H' := []) rfl rfl (.s (.tmp rfl) (.s (.tmp rfl) (.s (.tmp rfl) .z))) (by repeat (first | exact .z | apply Rems.s Rem.z | apply Rems.s (Rem.s Rem.z) | apply Rems.s (Rem.s (Rem.s Rem.z)) | apply Rems.s (Rem.s (Rem.s (Rem.s Rem.z))) | apply Rems.s (Rem.s (Rem.s (Rem.s (Rem.s Rem.z)))) | apply Rems.s (Rem.s (Rem.s (Rem.s (Rem.s (Rem.s Rem.z))))) | apply Rems.s (Rem.s (Rem.s (Rem.s (Rem.s (Rem.s (Rem.s Rem.z)))))) | apply Rems.s (Rem.s (Rem.s (Rem.s (Rem.s (Rem.s (Rem.s (Rem.s Rem.z))))))) | apply Rems.s (Rem.s (Rem.s (Rem.s (Rem.s (Rem.s (Rem.s (Rem.s (Rem.s Rem.z)))))))) | apply Rems.s (Rem.s (Rem.s (Rem.s (Rem.s (Rem.s (Rem.s (Rem.s (Rem.s (Rem.s Rem.z))))))))))) ?_
      refine ⟨?_, rfl⟩
      rcases hv with hv | hv <;> unfold warmDay warmth warmCode <;> simp_all [packV, ripestTo, -List.getD_eq_getElem?_getD]

theorem impl_WarmestDay (n : Int) (rs : List Nat) (hl : rs.length = 16) (hn : -128 ≤ n ∧ n ≤ 127) : SpecV Try.prog 26 [.agg (.int .i8 (n : Int) :: fl .f32 rs).toArray] [] (packV [.int .i64 (warmDay n rs : Int), .float .f32 (warmth n rs), .int .i64 (warmCode n rs)]) := by
  by_cases h : vCrate n rs = false ∨ n = 0
  · exact impl_WarmestDay_no n rs hl hn h
  · have hv : vCrate n rs = true := by cases hc : vCrate n rs with
      | true => rfl
      | false => exact absurd (.inl hc) h
    have h0 := vCrate_in hv
    obtain ⟨m, rfl⟩ := Int.eq_ofNat_of_zero_le h0.1
    exact impl_WarmestDay_ok m rs hl (by omega) hv (fun hm => h (.inr (by omega)))

theorem spec_WarmestDay (n : Int) (rs : List Nat) (hl : rs.length = 16) (hn : -128 ≤ n ∧ n ≤ 127) : SpecV Try.prog 25 [.agg (.int .i8 (n : Int) :: fl .f32 rs).toArray] [] (packV [.int .i64 (warmDay n rs : Int), .float .f32 (warmth n rs), .int .i64 (warmCode n rs)]) := by
  by_cases h : vCrate n rs = false ∨ n = 0
  · exact spec_WarmestDay_no n rs hl hn h
  · have hv : vCrate n rs = true := by cases hc : vCrate n rs with
      | true => rfl
      | false => exact absurd (.inl hc) h
    have h0 := vCrate_in hv
    obtain ⟨m, rfl⟩ := Int.eq_ofNat_of_zero_le h0.1
    exact spec_WarmestDay_ok m rs hl (by omega) hv (fun hm => h (.inr (by omega)))

set_option maxRecDepth 20000 in
theorem law_WarmestDay (n : Int) (rs : List Nat) (hl : rs.length = 16) (hn : -128 ≤ n ∧ n ≤ 127) : SpecV Try.prog 6 [.agg (.int .i8 n :: fl .f32 rs).toArray] [] (.bool true) := by
  refine spec_of Try.func6 rfl Try.ntmps6 rfl (fun w0 => ?_)
  have hw := w64_ok (warmth_nan (n := n) (rs := rs))
  have hw1 := hw.1
  have hw2 := hw.2
  refine K_seq ?_
  refine R_region ?_
  refine r_box rfl rfl rfl rfl (fun b1 => ?_)
  refine r_assign rfl rfl rfl ?_
  refine R_nil ?_
  refine K_tn ?_
  refine K_seq ?_
  refine R_region ?_
  refine r_loadA ag_26 sz_26 rfl rfl rfl (by first | exact .h .z | exact .h (.s .z) | exact .h (.s (.s .z)) | exact .h (.s (.s (.s .z))) | exact .h (.s (.s (.s (.s .z)))) | exact .h (.s (.s (.s (.s (.s .z))))) | exact .h (.s (.s (.s (.s (.s (.s .z)))))) | exact .h (.s (.s (.s (.s (.s (.s (.s .z))))))) | exact .h (.s (.s (.s (.s (.s (.s (.s (.s .z)))))))) | exact .x .z | exact .x (.s .z) | exact .x (.s (.s .z)) | exact .x (.s (.s (.s .z))) | exact .x (.s (.s (.s (.s .z)))) | exact .x (.s (.s (.s (.s (.s .z))))) | exact .x (.s (.s (.s (.s (.s (.s .z))))))) (by first | rfl | exact gC (by first | omega | (have h_r := ripestTo_lt rs k; omega) | (have h_r := ripestTo_lt rs n; omega)) | exact takeC (by omega) | exact takeC0 (by omega)) ?_
  refine r_callV cb_18 rfl rfl rfl rfl rfl (toVoyage _ _ (by assumption)) (by repeat (first | exact .z | refine .s (.h .z) ?_ | refine .s (.h (.s .z)) ?_ | refine .s (.h (.s (.s .z))) ?_ | refine .s (.h (.s (.s (.s .z)))) ?_ | refine .s (.h (.s (.s (.s (.s .z))))) ?_ | refine .s (.h (.s (.s (.s (.s (.s .z)))))) ?_ | refine .s (.h (.s (.s (.s (.s (.s (.s .z))))))) ?_ | refine .s (.h (.s (.s (.s (.s (.s (.s (.s .z)))))))) ?_ | refine .s (.h (.s (.s (.s (.s (.s (.s (.s (.s .z))))))))) ?_ | refine .s (.x .z) ?_ | refine .s (.x (.s .z)) ?_ | refine .s (.x (.s (.s .z))) ?_ | refine .s (.x (.s (.s (.s .z)))) ?_ | refine .s (.x (.s (.s (.s (.s .z))))) ?_ | refine .s (.x (.s (.s (.s (.s (.s .z)))))) ?_ | refine .s (.x (.s (.s (.s (.s (.s (.s .z))))))) ?_)) ?_
  refine r_callV cb_25 rfl rfl rfl rfl rfl (spec_WarmestDay _ _ (by assumption) (by first | assumption | omega)) (by repeat (first | exact .z | refine .s (.h .z) ?_ | refine .s (.h (.s .z)) ?_ | refine .s (.h (.s (.s .z))) ?_ | refine .s (.h (.s (.s (.s .z)))) ?_ | refine .s (.h (.s (.s (.s (.s .z))))) ?_ | refine .s (.h (.s (.s (.s (.s (.s .z)))))) ?_ | refine .s (.h (.s (.s (.s (.s (.s (.s .z))))))) ?_ | refine .s (.h (.s (.s (.s (.s (.s (.s (.s .z)))))))) ?_ | refine .s (.h (.s (.s (.s (.s (.s (.s (.s (.s .z))))))))) ?_ | refine .s (.x .z) ?_ | refine .s (.x (.s .z)) ?_ | refine .s (.x (.s (.s .z))) ?_ | refine .s (.x (.s (.s (.s .z)))) ?_ | refine .s (.x (.s (.s (.s (.s .z))))) ?_ | refine .s (.x (.s (.s (.s (.s (.s .z)))))) ?_ | refine .s (.x (.s (.s (.s (.s (.s (.s .z))))))) ?_)) ?_
  refine r_move rfl rfl rfl ?_
  refine r_extract rfl rfl rfl rfl ?_
  refine r_extract rfl rfl rfl rfl ?_
  refine r_extract rfl rfl rfl rfl ?_
  refine r_assign rfl rfl rfl ?_
  refine r_assign rfl rfl rfl ?_
  refine r_assign rfl rfl rfl ?_
  refine R_nil ?_
  refine K_tn ?_
  refine K_seq ?_
  refine R_region ?_
  refine r_loadA ag_26 sz_26 rfl rfl rfl (by first | exact .h .z | exact .h (.s .z) | exact .h (.s (.s .z)) | exact .h (.s (.s (.s .z))) | exact .h (.s (.s (.s (.s .z)))) | exact .h (.s (.s (.s (.s (.s .z))))) | exact .h (.s (.s (.s (.s (.s (.s .z)))))) | exact .h (.s (.s (.s (.s (.s (.s (.s .z))))))) | exact .h (.s (.s (.s (.s (.s (.s (.s (.s .z)))))))) | exact .x .z | exact .x (.s .z) | exact .x (.s (.s .z)) | exact .x (.s (.s (.s .z))) | exact .x (.s (.s (.s (.s .z)))) | exact .x (.s (.s (.s (.s (.s .z))))) | exact .x (.s (.s (.s (.s (.s (.s .z))))))) (by first | rfl | exact gC (by first | omega | (have h_r := ripestTo_lt rs k; omega) | (have h_r := ripestTo_lt rs n; omega)) | exact takeC (by omega) | exact takeC0 (by omega)) ?_
  refine r_callV cb_18 rfl rfl rfl rfl rfl (toVoyage _ _ (by assumption)) (by repeat (first | exact .z | refine .s (.h .z) ?_ | refine .s (.h (.s .z)) ?_ | refine .s (.h (.s (.s .z))) ?_ | refine .s (.h (.s (.s (.s .z)))) ?_ | refine .s (.h (.s (.s (.s (.s .z))))) ?_ | refine .s (.h (.s (.s (.s (.s (.s .z)))))) ?_ | refine .s (.h (.s (.s (.s (.s (.s (.s .z))))))) ?_ | refine .s (.h (.s (.s (.s (.s (.s (.s (.s .z)))))))) ?_ | refine .s (.h (.s (.s (.s (.s (.s (.s (.s (.s .z))))))))) ?_ | refine .s (.x .z) ?_ | refine .s (.x (.s .z)) ?_ | refine .s (.x (.s (.s .z))) ?_ | refine .s (.x (.s (.s (.s .z)))) ?_ | refine .s (.x (.s (.s (.s (.s .z))))) ?_ | refine .s (.x (.s (.s (.s (.s (.s .z)))))) ?_ | refine .s (.x (.s (.s (.s (.s (.s (.s .z))))))) ?_)) ?_
  refine r_callV cb_26 rfl rfl rfl rfl rfl (impl_WarmestDay _ _ (by assumption) (by first | assumption | omega)) (by repeat (first | exact .z | refine .s (.h .z) ?_ | refine .s (.h (.s .z)) ?_ | refine .s (.h (.s (.s .z))) ?_ | refine .s (.h (.s (.s (.s .z)))) ?_ | refine .s (.h (.s (.s (.s (.s .z))))) ?_ | refine .s (.h (.s (.s (.s (.s (.s .z)))))) ?_ | refine .s (.h (.s (.s (.s (.s (.s (.s .z))))))) ?_ | refine .s (.h (.s (.s (.s (.s (.s (.s (.s .z)))))))) ?_ | refine .s (.h (.s (.s (.s (.s (.s (.s (.s (.s .z))))))))) ?_ | refine .s (.x .z) ?_ | refine .s (.x (.s .z)) ?_ | refine .s (.x (.s (.s .z))) ?_ | refine .s (.x (.s (.s (.s .z)))) ?_ | refine .s (.x (.s (.s (.s (.s .z))))) ?_ | refine .s (.x (.s (.s (.s (.s (.s .z)))))) ?_ | refine .s (.x (.s (.s (.s (.s (.s (.s .z))))))) ?_)) ?_
  refine r_move rfl rfl rfl ?_
  refine r_extract rfl rfl rfl rfl ?_
  refine r_extract rfl rfl rfl rfl ?_
  refine r_extract rfl rfl rfl rfl ?_
  refine r_assign rfl rfl rfl ?_
  refine r_assign rfl rfl rfl ?_
  refine r_assign rfl rfl rfl ?_
  refine R_nil ?_
  refine K_tn ?_
  refine K_seq ?_
  refine K_seq ?_
  refine R_region ?_
  refine r_move rfl rfl rfl ?_
  refine r_move rfl rfl rfl ?_
  refine s_neq rfl rfl rfl rfl (fun h25 => ?_) (fun h25 => ?_)
  · first
    | (exfalso; first | omega | (simp_all; done))
    |
      refine r_move rfl rfl rfl ?_
      refine r_skip rfl rfl ?_
      refine r_skip rfl rfl ?_
      refine r_skip rfl rfl ?_
      refine r_skip rfl rfl ?_
      refine r_skip rfl rfl ?_
      refine r_skip rfl rfl ?_
      refine r_pick_t rfl rfl rfl rfl ?_
      refine r_move rfl rfl rfl ?_
      refine r_skip rfl rfl ?_
      refine r_skip rfl rfl ?_
      refine r_skip rfl rfl ?_
      refine r_pick_t rfl rfl rfl rfl ?_
      refine R_nil ?_
      refine K_tn ?_
      refine K_cond_t rfl ?_
      refine K_seq ?_
      refine R_region ?_
      refine r_assign rfl rfl rfl ?_
      refine R_nil ?_
      refine K_tn ?_
      refine K_ret ?_
      refine K_tr ?_
      refine K_done (H' := []) rfl rfl (.s (.tmp rfl) .z) (by repeat (first | exact .z | apply Rems.s Rem.z | apply Rems.s (Rem.s Rem.z) | apply Rems.s (Rem.s (Rem.s Rem.z)) | apply Rems.s (Rem.s (Rem.s (Rem.s Rem.z))) | apply Rems.s (Rem.s (Rem.s (Rem.s (Rem.s Rem.z)))) | apply Rems.s (Rem.s (Rem.s (Rem.s (Rem.s (Rem.s Rem.z))))) | apply Rems.s (Rem.s (Rem.s (Rem.s (Rem.s (Rem.s (Rem.s Rem.z)))))) | apply Rems.s (Rem.s (Rem.s (Rem.s (Rem.s (Rem.s (Rem.s (Rem.s Rem.z))))))) | apply Rems.s (Rem.s (Rem.s (Rem.s (Rem.s (Rem.s (Rem.s (Rem.s (Rem.s Rem.z)))))))) | apply Rems.s (Rem.s (Rem.s (Rem.s (Rem.s (Rem.s (Rem.s (Rem.s (Rem.s (Rem.s Rem.z))))))))))) ?_
      refine ⟨?_, rfl⟩
      simp [packV, *]
  · first
    | (exfalso; first | omega | (simp_all; done))
    |
      refine r_move rfl rfl rfl ?_
      refine r_move rfl rfl rfl ?_
      refine r_convFF ⟨_, un_23⟩ un_36 rfl rfl rfl (by assumption) ?_
      refine r_move rfl rfl rfl ?_
      refine r_convFF ⟨_, un_23⟩ un_36 rfl rfl rfl (by assumption) ?_
      refine s_callV cb_24 rfl rfl rfl rfl rfl (sameFloat_num _ (by assumption)) (by repeat (first | exact .z | refine .s (.h .z) ?_ | refine .s (.h (.s .z)) ?_ | refine .s (.h (.s (.s .z))) ?_ | refine .s (.h (.s (.s (.s .z)))) ?_ | refine .s (.h (.s (.s (.s (.s .z))))) ?_ | refine .s (.h (.s (.s (.s (.s (.s .z)))))) ?_ | refine .s (.h (.s (.s (.s (.s (.s (.s .z))))))) ?_ | refine .s (.h (.s (.s (.s (.s (.s (.s (.s .z)))))))) ?_ | refine .s (.h (.s (.s (.s (.s (.s (.s (.s (.s .z))))))))) ?_ | refine .s (.x .z) ?_ | refine .s (.x (.s .z)) ?_ | refine .s (.x (.s (.s .z))) ?_ | refine .s (.x (.s (.s (.s .z)))) ?_ | refine .s (.x (.s (.s (.s (.s .z))))) ?_ | refine .s (.x (.s (.s (.s (.s (.s .z)))))) ?_ | refine .s (.x (.s (.s (.s (.s (.s (.s .z))))))) ?_)) (fun h31 => ?_) (fun h31 => ?_)
      · first
        | (exfalso; first | omega | (simp_all; done))
        |
          refine r_not rfl rfl rfl ?_
          refine r_pick_f rfl rfl rfl rfl ?_
          refine r_move rfl rfl rfl ?_
          refine r_move rfl rfl rfl ?_
          refine r_move rfl rfl rfl ?_
          refine s_neq rfl rfl rfl rfl (fun h37 => ?_) (fun h37 => ?_)
          · first
            | (exfalso; first | omega | (simp_all; done))
            |
              refine r_pick_f rfl rfl rfl rfl ?_
              refine R_nil ?_
              refine K_tn ?_
              refine K_cond_t rfl ?_
              refine K_seq ?_
              refine R_region ?_
              refine r_assign rfl rfl rfl ?_
              refine R_nil ?_
              refine K_tn ?_
              refine K_ret ?_
              refine K_tr ?_
              refine K_done (H' := []) rfl rfl (.s (.tmp rfl) .z) (by repeat (first | exact .z | apply Rems.s Rem.z | apply Rems.s (Rem.s Rem.z) | apply Rems.s (Rem.s (Rem.s Rem.z)) | apply Rems.s (Rem.s (Rem.s (Rem.s Rem.z))) | apply Rems.s (Rem.s (Rem.s (Rem.s (Rem.s Rem.z)))) | apply Rems.s (Rem.s (Rem.s (Rem.s (Rem.s (Rem.s Rem.z))))) | apply Rems.s (Rem.s (Rem.s (Rem.s (Rem.s (Rem.s (Rem.s Rem.z)))))) | apply Rems.s (Rem.s (Rem.s (Rem.s (Rem.s (Rem.s (Rem.s (Rem.s Rem.z))))))) | apply Rems.s (Rem.s (Rem.s (Rem.s (Rem.s (Rem.s (Rem.s (Rem.s (Rem.s Rem.z)))))))) | apply Rems.s (Rem.s (Rem.s (Rem.s (Rem.s (Rem.s (Rem.s (Rem.s (Rem.s (Rem.s Rem.z))))))))))) ?_
              refine ⟨?_, rfl⟩
              simp [packV, *]
          · first
            | (exfalso; first | omega | (simp_all; done))
            |
              refine r_pick_f rfl rfl rfl rfl ?_
              refine R_nil ?_
              refine K_tn ?_
              refine K_cond_f rfl ?_
              refine K_skip ?_
              refine K_tn ?_
              refine K_seq ?_
              refine R_region ?_
              refine r_assign rfl rfl rfl ?_
              refine R_nil ?_
              refine K_tn ?_
              refine K_ret ?_
              refine K_done (H' := []) rfl rfl (.s (.tmp rfl) .z) (by repeat (first | exact .z | apply Rems.s Rem.z | apply Rems.s (Rem.s Rem.z) | apply Rems.s (Rem.s (Rem.s Rem.z)) | apply Rems.s (Rem.s (Rem.s (Rem.s Rem.z))) | apply Rems.s (Rem.s (Rem.s (Rem.s (Rem.s Rem.z)))) | apply Rems.s (Rem.s (Rem.s (Rem.s (Rem.s (Rem.s Rem.z))))) | apply Rems.s (Rem.s (Rem.s (Rem.s (Rem.s (Rem.s (Rem.s Rem.z)))))) | apply Rems.s (Rem.s (Rem.s (Rem.s (Rem.s (Rem.s (Rem.s (Rem.s Rem.z))))))) | apply Rems.s (Rem.s (Rem.s (Rem.s (Rem.s (Rem.s (Rem.s (Rem.s (Rem.s Rem.z)))))))) | apply Rems.s (Rem.s (Rem.s (Rem.s (Rem.s (Rem.s (Rem.s (Rem.s (Rem.s (Rem.s Rem.z))))))))))) ?_
              refine ⟨?_, rfl⟩
              simp [packV, *]
      · first
        | (exfalso; first | omega | (simp_all; done))
        |
          refine r_not rfl rfl rfl ?_
          refine r_pick_f rfl rfl rfl rfl ?_
          refine r_move rfl rfl rfl ?_
          refine r_skip rfl rfl ?_
          refine r_skip rfl rfl ?_
          refine r_skip rfl rfl ?_
          refine r_pick_t rfl rfl rfl rfl ?_
          refine R_nil ?_
          refine K_tn ?_
          refine K_cond_t rfl ?_
          refine K_seq ?_
          refine R_region ?_
          refine r_assign rfl rfl rfl ?_
          refine R_nil ?_
          refine K_tn ?_
          refine K_ret ?_
          refine K_tr ?_
          refine K_done (H' := []) rfl rfl (.s (.tmp rfl) .z) (by repeat (first | exact .z | apply Rems.s Rem.z | apply Rems.s (Rem.s Rem.z) | apply Rems.s (Rem.s (Rem.s Rem.z)) | apply Rems.s (Rem.s (Rem.s (Rem.s Rem.z))) | apply Rems.s (Rem.s (Rem.s (Rem.s (Rem.s Rem.z)))) | apply Rems.s (Rem.s (Rem.s (Rem.s (Rem.s (Rem.s Rem.z))))) | apply Rems.s (Rem.s (Rem.s (Rem.s (Rem.s (Rem.s (Rem.s Rem.z)))))) | apply Rems.s (Rem.s (Rem.s (Rem.s (Rem.s (Rem.s (Rem.s (Rem.s Rem.z))))))) | apply Rems.s (Rem.s (Rem.s (Rem.s (Rem.s (Rem.s (Rem.s (Rem.s (Rem.s Rem.z)))))))) | apply Rems.s (Rem.s (Rem.s (Rem.s (Rem.s (Rem.s (Rem.s (Rem.s (Rem.s (Rem.s Rem.z))))))))))) ?_
          refine ⟨?_, rfl⟩
          simp [packV, *]

end Go.Proofs.Ytpanpkmheeenjaa
