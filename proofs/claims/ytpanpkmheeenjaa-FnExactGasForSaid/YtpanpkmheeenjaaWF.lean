/- Walks of the functions of the program and of the reference, and what each of them returns. -/
import Derived.Test.YtpanpkmheeenjaaWE
set_option linter.unusedVariables false
set_option linter.unusedSimpArgs false
namespace Go.Proofs.Ytpanpkmheeenjaa
open Go.Sl
set_option maxRecDepth 20000 in
theorem l04Ripe (b : Nat) (n : Nat) (rs : List Nat) (hl : rs.length = 16) (hn : n ≤ 16) (u : TypeId) (fr : Nat × Nat) (c g p s : Nat) (hv : vCrate n rs = true) (hc : isPart c = true) (hg : isPart g = true) (hpp : isPart p = true) (hs : s ≤ n) : SpecV Try.prog 73 [.pointer (some ⟨b, 0, none⟩), .float .f32 c, .float .f32 g, .float .f32 p, .int .i64 (s : Int)] [(b, .cells (.int .i8 n :: fl .f32 rs).toArray u fr)] (.float .f32 (ripeTo rs c g p s (n - s))) := by
  refine spec_of Try.func73 rfl Try.ntmps73 rfl (fun w0 => ?_)
  refine K_seq ?_
  refine R_region ?_
  refine r_assign rfl rfl rfl ?_
  refine R_nil ?_
  refine K_tn ?_
  refine K_seq ?_
  refine K_seq ?_
  refine R_region ?_
  refine r_move rfl rfl rfl ?_
  refine r_assign rfl rfl rfl ?_
  refine R_nil ?_
  refine K_tn ?_
  refine K_block ?_
  refine K_loop (fun (k : Nat) => k ≤ n - s) (fun k => [(0, .pointer (some ⟨b, 0, none⟩)), (1, .float .f32 c), (2, .float .f32 g), (3, .float .f32 (ripeTo rs c g p s k)), (11, .int .i64 ((s + k : Nat) : Int))]) (fun _ => []) (fun k => n - s - k) 0 (by omega) (by repeat (first | exact trivial | refine ⟨rfl, ?_⟩)) (by repeat (first | exact .z | apply Rems.s Rem.z | apply Rems.s (Rem.s Rem.z) | apply Rems.s (Rem.s (Rem.s Rem.z)) | apply Rems.s (Rem.s (Rem.s (Rem.s Rem.z))) | apply Rems.s (Rem.s (Rem.s (Rem.s (Rem.s Rem.z)))) | apply Rems.s (Rem.s (Rem.s (Rem.s (Rem.s (Rem.s Rem.z))))) | apply Rems.s (Rem.s (Rem.s (Rem.s (Rem.s (Rem.s (Rem.s Rem.z)))))) | apply Rems.s (Rem.s (Rem.s (Rem.s (Rem.s (Rem.s (Rem.s (Rem.s Rem.z))))))) | apply Rems.s (Rem.s (Rem.s (Rem.s (Rem.s (Rem.s (Rem.s (Rem.s (Rem.s Rem.z)))))))) | apply Rems.s (Rem.s (Rem.s (Rem.s (Rem.s (Rem.s (Rem.s (Rem.s (Rem.s (Rem.s Rem.z))))))))))) (fun k hp => ?_)
  refine K_seq ?_
  refine K_seq ?_
  refine R_region ?_
  refine r_move rfl rfl rfl ?_
  refine r_move rfl rfl rfl ?_
  refine r_nilCheck rfl rfl rfl ?_
  refine r_fieldAddr fd_28_0 rfl rfl rfl ?_
  refine r_load ag_22 rfl rfl rfl (by first | exact .h .z | exact .h (.s .z) | exact .h (.s (.s .z)) | exact .h (.s (.s (.s .z))) | exact .h (.s (.s (.s (.s .z)))) | exact .h (.s (.s (.s (.s (.s .z))))) | exact .h (.s (.s (.s (.s (.s (.s .z)))))) | exact .h (.s (.s (.s (.s (.s (.s (.s .z))))))) | exact .h (.s (.s (.s (.s (.s (.s (.s (.s .z)))))))) | exact .x .z | exact .x (.s .z) | exact .x (.s (.s .z)) | exact .x (.s (.s (.s .z))) | exact .x (.s (.s (.s (.s .z)))) | exact .x (.s (.s (.s (.s (.s .z))))) | exact .x (.s (.s (.s (.s (.s (.s .z))))))) (by first | rfl | exact gC (by omega) | exact takeC (by omega) | exact takeC0 (by omega)) ?_
  refine r_convI ⟨_, un_22⟩ un_2 rfl rfl rfl (i64K (by omega) (by omega)) ?_
  refine s_lss rfl rfl rfl rfl (fun h20 => ?_) (fun h20 => ?_)
  · first
    | (exfalso; omega)
    |
      refine R_nil ?_
      refine K_tn ?_
      refine K_cond_t rfl ?_
      refine K_skip ?_
      refine K_tn ?_
      refine K_seq ?_
      refine K_block ?_
      refine K_seq ?_
      refine R_region ?_
      have hpk := ripeTo_part (s := s) hv hc hg hpp k (by omega)
      obtain ⟨hw, hi, hr, hst⟩ := step_part hv hc hg hpk (k := s + k) (by omega)
      refine r_move rfl rfl rfl ?_
      refine r_move rfl rfl rfl ?_
      refine r_move rfl rfl rfl ?_
      refine r_callV cb_64 rfl rfl rfl rfl rfl (l04Inside _ _ _ (by assumption) _ _ _ _ (by omega) (by assumption) (by assumption)) (by repeat (first | exact .z | refine .s (.h .z) ?_ | refine .s (.h (.s .z)) ?_ | refine .s (.h (.s (.s .z))) ?_ | refine .s (.h (.s (.s (.s .z)))) ?_ | refine .s (.h (.s (.s (.s (.s .z))))) ?_ | refine .s (.h (.s (.s (.s (.s (.s .z)))))) ?_ | refine .s (.h (.s (.s (.s (.s (.s (.s .z))))))) ?_ | refine .s (.h (.s (.s (.s (.s (.s (.s (.s .z)))))))) ?_ | refine .s (.h (.s (.s (.s (.s (.s (.s (.s (.s .z))))))))) ?_ | refine .s (.x .z) ?_ | refine .s (.x (.s .z)) ?_ | refine .s (.x (.s (.s .z))) ?_ | refine .s (.x (.s (.s (.s .z)))) ?_ | refine .s (.x (.s (.s (.s (.s .z))))) ?_ | refine .s (.x (.s (.s (.s (.s (.s .z)))))) ?_ | refine .s (.x (.s (.s (.s (.s (.s (.s .z))))))) ?_)) ?_
      refine r_move rfl rfl rfl ?_
      refine op_pure rfl rfl (p_build zr_89 pl_89 al_89 rfl (by first | rfl)) ?_
      refine r_alloc zr_89 rfl rfl (fun b12 => ?_)
      refine r_storeA sz_89 rfl rfl rfl (by first | rfl) (by first | rfl) (by first | exact .z | exact (.s .z) | exact (.s (.s .z)) | exact (.s (.s (.s .z))) | exact (.s (.s (.s (.s .z)))) | exact (.s (.s (.s (.s (.s .z))))) | exact (.s (.s (.s (.s (.s (.s .z)))))) | exact (.s (.s (.s (.s (.s (.s (.s .z))))))) | exact (.s (.s (.s (.s (.s (.s (.s (.s .z)))))))) | exact (.s (.s (.s (.s (.s (.s (.s (.s (.s .z)))))))))) (by first | rfl) ?_
      refine R_nil ?_
      refine K_tn ?_
      refine R_region ?_
      refine r_move rfl rfl rfl ?_
      refine r_callV cb_78 rfl rfl rfl rfl rfl (l01Rate _ (insideF (rs.getD (s + k) 0) c) g _ _ hi hg) (by repeat (first | exact .z | refine .s (.h .z) ?_ | refine .s (.h (.s .z)) ?_ | refine .s (.h (.s (.s .z))) ?_ | refine .s (.h (.s (.s (.s .z)))) ?_ | refine .s (.h (.s (.s (.s (.s .z))))) ?_ | refine .s (.h (.s (.s (.s (.s (.s .z)))))) ?_ | refine .s (.h (.s (.s (.s (.s (.s (.s .z))))))) ?_ | refine .s (.h (.s (.s (.s (.s (.s (.s (.s .z)))))))) ?_ | refine .s (.h (.s (.s (.s (.s (.s (.s (.s (.s .z))))))))) ?_ | refine .s (.x .z) ?_ | refine .s (.x (.s .z)) ?_ | refine .s (.x (.s (.s .z))) ?_ | refine .s (.x (.s (.s (.s .z)))) ?_ | refine .s (.x (.s (.s (.s (.s .z))))) ?_ | refine .s (.x (.s (.s (.s (.s (.s .z)))))) ?_ | refine .s (.x (.s (.s (.s (.s (.s (.s .z))))))) ?_)) ?_
      refine r_callV cb_77 rfl rfl rfl rfl rfl (l01Grown _ _ (by assumption) (by assumption)) (by repeat (first | exact .z | refine .s (.h .z) ?_ | refine .s (.h (.s .z)) ?_ | refine .s (.h (.s (.s .z))) ?_ | refine .s (.h (.s (.s (.s .z)))) ?_ | refine .s (.h (.s (.s (.s (.s .z))))) ?_ | refine .s (.h (.s (.s (.s (.s (.s .z)))))) ?_ | refine .s (.h (.s (.s (.s (.s (.s (.s .z))))))) ?_ | refine .s (.h (.s (.s (.s (.s (.s (.s (.s .z)))))))) ?_ | refine .s (.h (.s (.s (.s (.s (.s (.s (.s (.s .z))))))))) ?_ | refine .s (.x .z) ?_ | refine .s (.x (.s .z)) ?_ | refine .s (.x (.s (.s .z))) ?_ | refine .s (.x (.s (.s (.s .z)))) ?_ | refine .s (.x (.s (.s (.s (.s .z))))) ?_ | refine .s (.x (.s (.s (.s (.s (.s .z)))))) ?_ | refine .s (.x (.s (.s (.s (.s (.s (.s .z))))))) ?_)) ?_
      refine r_assign rfl rfl rfl ?_
      refine R_nil ?_
      refine K_bn ?_
      refine K_tn ?_
      refine R_region ?_
      refine r_move rfl rfl rfl ?_
      first | refine r_addN rfl rfl rfl rfl (i64K (by omega) (by omega)) ?_ | refine r_add rfl rfl rfl rfl (i64K (by omega) (by omega)) ?_
      refine r_assign rfl rfl rfl ?_
      refine R_nil ?_
      refine K_tn ?_
      exact K_again (k + 1) (by omega) (by omega) (by repeat (first | exact trivial | refine ⟨rfl, ?_⟩)) (by repeat (first | exact .z | apply Rems.s Rem.z | apply Rems.s (Rem.s Rem.z) | apply Rems.s (Rem.s (Rem.s Rem.z)) | apply Rems.s (Rem.s (Rem.s (Rem.s Rem.z))) | apply Rems.s (Rem.s (Rem.s (Rem.s (Rem.s Rem.z)))) | apply Rems.s (Rem.s (Rem.s (Rem.s (Rem.s (Rem.s Rem.z))))) | apply Rems.s (Rem.s (Rem.s (Rem.s (Rem.s (Rem.s (Rem.s Rem.z)))))) | apply Rems.s (Rem.s (Rem.s (Rem.s (Rem.s (Rem.s (Rem.s (Rem.s Rem.z))))))) | apply Rems.s (Rem.s (Rem.s (Rem.s (Rem.s (Rem.s (Rem.s (Rem.s (Rem.s Rem.z)))))))) | apply Rems.s (Rem.s (Rem.s (Rem.s (Rem.s (Rem.s (Rem.s (Rem.s (Rem.s (Rem.s Rem.z)))))))))))
  · first
    | (exfalso; omega)
    |
      refine R_nil ?_
      refine K_tn ?_
      refine K_cond_f rfl ?_
      refine K_exit ?_
      refine K_te ?_
      refine K_te ?_
      refine K_be ?_
      refine K_tn ?_
      refine K_seq ?_
      refine R_region ?_
      have hkn : k = n - s := by omega
      subst hkn
      refine r_move rfl rfl rfl ?_
      refine r_assign rfl rfl rfl ?_
      refine R_nil ?_
      refine K_tn ?_
      refine K_ret ?_
      refine K_done (H' := []) rfl rfl (.s (.tmp rfl) .z) (by repeat (first | exact .z | apply Rems.s Rem.z | apply Rems.s (Rem.s Rem.z) | apply Rems.s (Rem.s (Rem.s Rem.z)) | apply Rems.s (Rem.s (Rem.s (Rem.s Rem.z))) | apply Rems.s (Rem.s (Rem.s (Rem.s (Rem.s Rem.z)))) | apply Rems.s (Rem.s (Rem.s (Rem.s (Rem.s (Rem.s Rem.z))))) | apply Rems.s (Rem.s (Rem.s (Rem.s (Rem.s (Rem.s (Rem.s Rem.z)))))) | apply Rems.s (Rem.s (Rem.s (Rem.s (Rem.s (Rem.s (Rem.s (Rem.s Rem.z))))))) | apply Rems.s (Rem.s (Rem.s (Rem.s (Rem.s (Rem.s (Rem.s (Rem.s (Rem.s Rem.z)))))))) | apply Rems.s (Rem.s (Rem.s (Rem.s (Rem.s (Rem.s (Rem.s (Rem.s (Rem.s (Rem.s Rem.z))))))))))) ?_
      refine ⟨?_, rfl⟩
      rfl

set_option maxRecDepth 20000 in
theorem course (n : Nat) (rs : List Nat) (hl : rs.length = 16) (hn : n ≤ 16) (c g p s : Nat) (hv : vCrate n rs = true) (hc : isPart c = true) (hg : isPart g = true) (hpp : isPart p = true) (hs : s ≤ n) : Go.Sl.Spec Try.prog 71 [.agg (.int .i8 (n : Int) :: fl .f32 rs).toArray, .float .f32 c, .float .f32 g, .float .f32 p, .int .i64 (s : Int)] [] [] (RowF (courseL rs c g p s (n - s)) (n - s)) := by
  refine spec_of Try.func71 rfl Try.ntmps71 rfl (fun w0 => ?_)
  refine K_seq ?_
  refine R_region ?_
  refine r_box rfl rfl rfl rfl (fun b5 => ?_)
  refine r_assign rfl rfl rfl ?_
  refine R_nil ?_
  refine K_tn ?_
  refine K_seq ?_
  refine R_region ?_
  refine r_buildSlice sl_47 sz_23 zr_23 rfl rfl rfl rfl rfl (by first | rfl) (fun b14 => ?_)
  refine r_assign rfl rfl rfl ?_
  refine R_nil ?_
  refine K_tn ?_
  refine K_seq ?_
  refine K_seq ?_
  refine R_region ?_
  refine r_callV cb_95 rfl rfl rfl rfl rfl (days _ _ _ (by omega) _ _) (by repeat (first | exact .z | refine .s (.h .z) ?_ | refine .s (.h (.s .z)) ?_ | refine .s (.h (.s (.s .z))) ?_ | refine .s (.h (.s (.s (.s .z)))) ?_ | refine .s (.h (.s (.s (.s (.s .z))))) ?_ | refine .s (.h (.s (.s (.s (.s (.s .z)))))) ?_ | refine .s (.h (.s (.s (.s (.s (.s (.s .z))))))) ?_ | refine .s (.h (.s (.s (.s (.s (.s (.s (.s .z)))))))) ?_ | refine .s (.h (.s (.s (.s (.s (.s (.s (.s (.s .z))))))))) ?_ | refine .s (.x .z) ?_ | refine .s (.x (.s .z)) ?_ | refine .s (.x (.s (.s .z))) ?_ | refine .s (.x (.s (.s (.s .z)))) ?_ | refine .s (.x (.s (.s (.s (.s .z))))) ?_ | refine .s (.x (.s (.s (.s (.s (.s .z)))))) ?_ | refine .s (.x (.s (.s (.s (.s (.s (.s .z))))))) ?_)) ?_
  refine r_move rfl rfl rfl ?_
  refine op_pure rfl rfl (p_sliceS sl_47 sz_23 rfl rfl rfl rfl rfl ⟨by omega, by omega⟩ (by omega)) ?_
  refine r_lenS sl_47 rfl rfl rfl ?_
  refine r_move rfl rfl rfl ?_
  refine R_nil ?_
  refine K_tn ?_
  refine K_block ?_
  refine K_loop2 (fun (k : Nat) (q : RowP) => k ≤ n - s ∧ k + q.junk.length = q.cap) (fun k q => [(1, .float .f32 c), (2, .float .f32 g), (3, .float .f32 (ripeTo rs c g p s k)), (11, .slice (some ⟨q.b, 0, none⟩) k q.cap), (17, .slice (some ⟨b5, if 16 = s then 0 + 1 else 0 + 1 + s * 1, none⟩) (n - s) (16 - s)), (18, .int .i64 ((n - s : Nat) : Int)), (19, .int .i64 (k : Int))]) (fun k q => [(q.b, .cells (fl .f32 (courseL rs c g p s k) ++ q.junk).toArray q.u (0, 0)), (b5, .cells (.int .i8 (n : Int) :: fl .f32 rs).toArray 28 (0, 0))]) (fun k _ => n - s - k) 0 ⟨b14, 0, [], 23⟩ (by exact ⟨Nat.zero_le _, rfl⟩) (by repeat (first | exact trivial | refine ⟨rfl, ?_⟩)) (by repeat (first | exact .z | apply Rems.s Rem.z | apply Rems.s (Rem.s Rem.z) | apply Rems.s (Rem.s (Rem.s Rem.z)) | apply Rems.s (Rem.s (Rem.s (Rem.s Rem.z))) | apply Rems.s (Rem.s (Rem.s (Rem.s (Rem.s Rem.z)))) | apply Rems.s (Rem.s (Rem.s (Rem.s (Rem.s (Rem.s Rem.z))))) | apply Rems.s (Rem.s (Rem.s (Rem.s (Rem.s (Rem.s (Rem.s Rem.z)))))) | apply Rems.s (Rem.s (Rem.s (Rem.s (Rem.s (Rem.s (Rem.s (Rem.s Rem.z))))))) | apply Rems.s (Rem.s (Rem.s (Rem.s (Rem.s (Rem.s (Rem.s (Rem.s (Rem.s Rem.z)))))))) | apply Rems.s (Rem.s (Rem.s (Rem.s (Rem.s (Rem.s (Rem.s (Rem.s (Rem.s (Rem.s Rem.z))))))))))) (fun k q hp => ?_)
  obtain ⟨hk, hq⟩ := hp
  refine K_seq ?_
  refine R_region ?_
  refine s_lss rfl rfl rfl rfl (fun h20 => ?_) (fun h20 => ?_)
  · first
    | (exfalso; omega)
    |
      refine R_nil ?_
      refine K_tn ?_
      refine K_seq ?_
      refine K_cond_t rfl ?_
      refine K_skip ?_
      refine K_tn ?_
      refine K_seq ?_
      refine K_block ?_
      refine K_seq ?_
      refine R_region ?_
      refine r_indexS sl_47 sz_23 rfl rfl rfl rfl (by omega) ?_
      refine r_load ag_23 rfl rfl rfl (by first | exact .h .z | exact .h (.s .z) | exact .h (.s (.s .z)) | exact .h (.s (.s (.s .z))) | exact .h (.s (.s (.s (.s .z)))) | exact .h (.s (.s (.s (.s (.s .z))))) | exact .h (.s (.s (.s (.s (.s (.s .z)))))) | exact .h (.s (.s (.s (.s (.s (.s (.s .z))))))) | exact .h (.s (.s (.s (.s (.s (.s (.s (.s .z)))))))) | exact .x .z | exact .x (.s .z) | exact .x (.s (.s .z)) | exact .x (.s (.s (.s .z))) | exact .x (.s (.s (.s (.s .z)))) | exact .x (.s (.s (.s (.s (.s .z))))) | exact .x (.s (.s (.s (.s (.s (.s .z))))))) (by first | rfl | exact gC2 (by omega) (by omega) | exact gC (by omega) | exact takeC0 (by omega)) ?_
      refine r_assign rfl rfl rfl ?_
      refine R_nil ?_
      refine K_tn ?_
      refine K_seq ?_
      refine R_region ?_
      have hpk := ripeTo_part (s := s) hv hc hg hpp k (by omega)
      obtain ⟨hw, hi, hr, hst⟩ := step_part hv hc hg hpk (k := s + k) (by omega)
      refine r_move rfl rfl rfl ?_
      refine r_move rfl rfl rfl ?_
      refine r_move rfl rfl rfl ?_
      refine r_callV cb_67 rfl rfl rfl rfl rfl (inside _ _ (by assumption) (by assumption)) (by repeat (first | exact .z | refine .s (.h .z) ?_ | refine .s (.h (.s .z)) ?_ | refine .s (.h (.s (.s .z))) ?_ | refine .s (.h (.s (.s (.s .z)))) ?_ | refine .s (.h (.s (.s (.s (.s .z))))) ?_ | refine .s (.h (.s (.s (.s (.s (.s .z)))))) ?_ | refine .s (.h (.s (.s (.s (.s (.s (.s .z))))))) ?_ | refine .s (.h (.s (.s (.s (.s (.s (.s (.s .z)))))))) ?_ | refine .s (.h (.s (.s (.s (.s (.s (.s (.s (.s .z))))))))) ?_ | refine .s (.x .z) ?_ | refine .s (.x (.s .z)) ?_ | refine .s (.x (.s (.s .z))) ?_ | refine .s (.x (.s (.s (.s .z)))) ?_ | refine .s (.x (.s (.s (.s (.s .z))))) ?_ | refine .s (.x (.s (.s (.s (.s (.s .z)))))) ?_ | refine .s (.x (.s (.s (.s (.s (.s (.s .z))))))) ?_)) ?_
      refine r_move rfl rfl rfl ?_
      refine op_pure rfl rfl (p_build zr_89 pl_89 al_89 rfl (by first | rfl)) ?_
      refine r_callV cb_97 rfl rfl rfl rfl rfl (rate _ _ (by assumption) (by assumption)) (by repeat (first | exact .z | refine .s (.h .z) ?_ | refine .s (.h (.s .z)) ?_ | refine .s (.h (.s (.s .z))) ?_ | refine .s (.h (.s (.s (.s .z)))) ?_ | refine .s (.h (.s (.s (.s (.s .z))))) ?_ | refine .s (.h (.s (.s (.s (.s (.s .z)))))) ?_ | refine .s (.h (.s (.s (.s (.s (.s (.s .z))))))) ?_ | refine .s (.h (.s (.s (.s (.s (.s (.s (.s .z)))))))) ?_ | refine .s (.h (.s (.s (.s (.s (.s (.s (.s (.s .z))))))))) ?_ | refine .s (.x .z) ?_ | refine .s (.x (.s .z)) ?_ | refine .s (.x (.s (.s .z))) ?_ | refine .s (.x (.s (.s (.s .z)))) ?_ | refine .s (.x (.s (.s (.s (.s .z))))) ?_ | refine .s (.x (.s (.s (.s (.s (.s .z)))))) ?_ | refine .s (.x (.s (.s (.s (.s (.s (.s .z))))))) ?_)) ?_
      refine r_callV cb_96 rfl rfl rfl rfl rfl (grown _ _ (by assumption) (by assumption)) (by repeat (first | exact .z | refine .s (.h .z) ?_ | refine .s (.h (.s .z)) ?_ | refine .s (.h (.s (.s .z))) ?_ | refine .s (.h (.s (.s (.s .z)))) ?_ | refine .s (.h (.s (.s (.s (.s .z))))) ?_ | refine .s (.h (.s (.s (.s (.s (.s .z)))))) ?_ | refine .s (.h (.s (.s (.s (.s (.s (.s .z))))))) ?_ | refine .s (.h (.s (.s (.s (.s (.s (.s (.s .z)))))))) ?_ | refine .s (.h (.s (.s (.s (.s (.s (.s (.s (.s .z))))))))) ?_ | refine .s (.x .z) ?_ | refine .s (.x (.s .z)) ?_ | refine .s (.x (.s (.s .z))) ?_ | refine .s (.x (.s (.s (.s .z)))) ?_ | refine .s (.x (.s (.s (.s (.s .z))))) ?_ | refine .s (.x (.s (.s (.s (.s (.s .z)))))) ?_ | refine .s (.x (.s (.s (.s (.s (.s (.s .z))))))) ?_)) ?_
      refine r_assign rfl rfl rfl ?_
      refine R_nil ?_
      refine K_tn ?_
      refine R_region ?_
      refine r_move rfl rfl rfl ?_
      refine r_move rfl rfl rfl ?_
      refine r_buildSlice sl_47 sz_23 zr_23 rfl rfl rfl rfl rfl (by first | rfl) (fun b33 => ?_)
      refine r_appendF sl_47 sl_47 sz_23 zr_23 rfl by_23 rfl rfl rfl rfl rfl (by first | exact .h .z | exact .h (.s .z) | exact .h (.s (.s .z)) | exact .h (.s (.s (.s .z))) | exact .h (.s (.s (.s (.s .z)))) | exact .h (.s (.s (.s (.s (.s .z))))) | exact .h (.s (.s (.s (.s (.s (.s .z)))))) | exact .h (.s (.s (.s (.s (.s (.s (.s .z))))))) | exact .h (.s (.s (.s (.s (.s (.s (.s (.s .z)))))))) | exact .x .z | exact .x (.s .z) | exact .x (.s (.s .z)) | exact .x (.s (.s (.s .z))) | exact .x (.s (.s (.s (.s .z)))) | exact .x (.s (.s (.s (.s (.s .z))))) | exact .x (.s (.s (.s (.s (.s (.s .z))))))) (by first | exact .z | exact (.s .z) | exact (.s (.s .z)) | exact (.s (.s (.s .z))) | exact (.s (.s (.s (.s .z)))) | exact (.s (.s (.s (.s (.s .z))))) | exact (.s (.s (.s (.s (.s (.s .z)))))) | exact (.s (.s (.s (.s (.s (.s (.s .z))))))) | exact (.s (.s (.s (.s (.s (.s (.s (.s .z)))))))) | exact (.s (.s (.s (.s (.s (.s (.s (.s (.s .z)))))))))) (by first | omega | exact courseL_len) (by omega) (by omega) (fun b34 cap34 junk34 u34 hj34 => ?_)
      refine r_assign rfl rfl rfl ?_
      refine R_nil ?_
      refine K_bn ?_
      refine K_tn ?_
      refine R_region ?_
      first | refine r_addN rfl rfl rfl rfl (i64K (by omega) (by omega)) ?_ | refine r_add rfl rfl rfl rfl (i64K (by omega) (by omega)) ?_
      refine r_move rfl rfl rfl ?_
      refine R_nil ?_
      refine K_tn ?_
      rw [ripeTo_succ, courseL_succ]
      exact K_again2 (pre := (fun (k : Nat) (q : RowP) => k ≤ n - s ∧ k + q.junk.length = q.cap)) (Ei := (fun k q => [(1, .float .f32 c), (2, .float .f32 g), (3, .float .f32 (ripeTo rs c g p s k)), (11, .slice (some ⟨q.b, 0, none⟩) k q.cap), (17, .slice (some ⟨b5, if 16 = s then 0 + 1 else 0 + 1 + s * 1, none⟩) (n - s) (16 - s)), (18, .int .i64 ((n - s : Nat) : Int)), (19, .int .i64 (k : Int))])) (Hi := (fun k q => [(q.b, .cells (fl .f32 (courseL rs c g p s k) ++ q.junk).toArray q.u (0, 0)), (b5, .cells (.int .i8 (n : Int) :: fl .f32 rs).toArray 28 (0, 0))])) (μ := (fun k _ => n - s - k)) (k + 1) (RowP.mk b34 cap34 junk34 u34) (by refine ⟨?_, ?_⟩ <;> (try simp only) <;> omega) (by omega) (by repeat (first | exact trivial | refine ⟨rfl, ?_⟩)) (by repeat (first | exact .z | apply Rems.s Rem.z | apply Rems.s (Rem.s Rem.z) | apply Rems.s (Rem.s (Rem.s Rem.z)) | apply Rems.s (Rem.s (Rem.s (Rem.s Rem.z))) | apply Rems.s (Rem.s (Rem.s (Rem.s (Rem.s Rem.z)))) | apply Rems.s (Rem.s (Rem.s (Rem.s (Rem.s (Rem.s Rem.z))))) | apply Rems.s (Rem.s (Rem.s (Rem.s (Rem.s (Rem.s (Rem.s Rem.z)))))) | apply Rems.s (Rem.s (Rem.s (Rem.s (Rem.s (Rem.s (Rem.s (Rem.s Rem.z))))))) | apply Rems.s (Rem.s (Rem.s (Rem.s (Rem.s (Rem.s (Rem.s (Rem.s (Rem.s Rem.z)))))))) | apply Rems.s (Rem.s (Rem.s (Rem.s (Rem.s (Rem.s (Rem.s (Rem.s (Rem.s (Rem.s Rem.z)))))))))))
  · first
    | (exfalso; omega)
    |
      refine R_nil ?_
      refine K_tn ?_
      refine K_seq ?_
      refine K_cond_f rfl ?_
      refine K_exit ?_
      refine K_te ?_
      refine K_te ?_
      refine K_be ?_
      refine K_tn ?_
      refine K_seq ?_
      refine R_region ?_
      have hkn : k = n - s := by omega
      subst hkn
      refine r_move rfl rfl rfl ?_
      refine r_assign rfl rfl rfl ?_
      refine R_nil ?_
      refine K_tn ?_
      refine K_ret ?_
      refine K_done (H' := [(q.b, .cells (fl .f32 (courseL rs c g p s (n - s)) ++ q.junk).toArray q.u (0, 0))]) rfl rfl (.s (.tmp rfl) .z) (by repeat (first | exact .z | apply Rems.s Rem.z | apply Rems.s (Rem.s Rem.z) | apply Rems.s (Rem.s (Rem.s Rem.z)) | apply Rems.s (Rem.s (Rem.s (Rem.s Rem.z))) | apply Rems.s (Rem.s (Rem.s (Rem.s (Rem.s Rem.z)))) | apply Rems.s (Rem.s (Rem.s (Rem.s (Rem.s (Rem.s Rem.z))))) | apply Rems.s (Rem.s (Rem.s (Rem.s (Rem.s (Rem.s (Rem.s Rem.z)))))) | apply Rems.s (Rem.s (Rem.s (Rem.s (Rem.s (Rem.s (Rem.s (Rem.s Rem.z))))))) | apply Rems.s (Rem.s (Rem.s (Rem.s (Rem.s (Rem.s (Rem.s (Rem.s (Rem.s Rem.z)))))))) | apply Rems.s (Rem.s (Rem.s (Rem.s (Rem.s (Rem.s (Rem.s (Rem.s (Rem.s (Rem.s Rem.z))))))))))) ?_
      exact ⟨q.b, q.cap, q.junk, q.u, rfl, by omega, courseL_len, rfl⟩

set_option maxRecDepth 20000 in
theorem atEnd (n : Nat) (rs : List Nat) (hl : rs.length = 16) (hn : n ≤ 16) (c g p s : Nat) (hv : vCrate n rs = true) (hc : isPart c = true) (hg : isPart g = true) (hpp : isPart p = true) (hs : s ≤ n) : SpecV Try.prog 74 [.agg (.int .i8 (n : Int) :: fl .f32 rs).toArray, .float .f32 c, .float .f32 g, .float .f32 p, .int .i64 (s : Int)] [] (.float .f32 (ripeTo rs c g p s (n - s))) := by
  refine spec_of Try.func74 rfl Try.ntmps74 rfl (fun w0 => ?_)
  refine K_seq ?_
  refine R_region ?_
  refine r_box rfl rfl rfl rfl (fun b5 => ?_)
  refine r_assign rfl rfl rfl ?_
  refine R_nil ?_
  refine K_tn ?_
  refine K_seq ?_
  refine R_region ?_
  refine r_loadA ag_28 sz_28 rfl rfl rfl (by first | exact .h .z | exact .h (.s .z) | exact .h (.s (.s .z)) | exact .h (.s (.s (.s .z))) | exact .h (.s (.s (.s (.s .z)))) | exact .h (.s (.s (.s (.s (.s .z))))) | exact .h (.s (.s (.s (.s (.s (.s .z)))))) | exact .h (.s (.s (.s (.s (.s (.s (.s .z))))))) | exact .h (.s (.s (.s (.s (.s (.s (.s (.s .z)))))))) | exact .x .z | exact .x (.s .z) | exact .x (.s (.s .z)) | exact .x (.s (.s (.s .z))) | exact .x (.s (.s (.s (.s .z)))) | exact .x (.s (.s (.s (.s (.s .z))))) | exact .x (.s (.s (.s (.s (.s (.s .z))))))) (by first | rfl | exact gC (by omega) | exact takeC (by omega) | exact takeC0 (by omega) | exact gF (by rw [courseL_len]; omega)) ?_
  refine r_move rfl rfl rfl ?_
  refine r_move rfl rfl rfl ?_
  refine r_move rfl rfl rfl ?_
  refine r_move rfl rfl rfl ?_
  refine r_callR cb_71 rfl rfl rfl rfl rfl (course _ _ (by assumption) (by omega) _ _ _ _ (by assumption) (by assumption) (by assumption) (by assumption) (by omega)) (by repeat (first | exact .z | refine .s (.h .z) ?_ | refine .s (.h (.s .z)) ?_ | refine .s (.h (.s (.s .z))) ?_ | refine .s (.h (.s (.s (.s .z)))) ?_ | refine .s (.h (.s (.s (.s (.s .z))))) ?_ | refine .s (.h (.s (.s (.s (.s (.s .z)))))) ?_ | refine .s (.h (.s (.s (.s (.s (.s (.s .z))))))) ?_ | refine .s (.h (.s (.s (.s (.s (.s (.s (.s .z)))))))) ?_ | refine .s (.h (.s (.s (.s (.s (.s (.s (.s (.s .z))))))))) ?_ | refine .s (.x .z) ?_ | refine .s (.x (.s .z)) ?_ | refine .s (.x (.s (.s .z))) ?_ | refine .s (.x (.s (.s (.s .z)))) ?_ | refine .s (.x (.s (.s (.s (.s .z))))) ?_ | refine .s (.x (.s (.s (.s (.s (.s .z)))))) ?_ | refine .s (.x (.s (.s (.s (.s (.s (.s .z))))))) ?_)) ?_
  rintro _ _ ⟨bC, capC, junkC, uC, rfl, hjC, hlC, rfl⟩
  refine r_assign rfl rfl rfl ?_
  refine R_nil ?_
  refine K_tn ?_
  refine K_seq ?_
  refine K_seq ?_
  refine R_region ?_
  refine r_move rfl rfl rfl ?_
  refine r_lenS sl_47 rfl rfl rfl ?_
  refine s_eql rfl rfl rfl rfl (fun h20 => ?_) (fun h20 => ?_)
  · first
    | (exfalso; omega)
    |
      refine R_nil ?_
      refine K_tn ?_
      refine K_cond_t rfl ?_
      refine K_seq ?_
      refine R_region ?_
      refine r_move rfl rfl rfl ?_
      refine r_assign rfl rfl rfl ?_
      refine R_nil ?_
      refine K_tn ?_
      refine K_ret ?_
      refine K_tr ?_
      refine K_done (H' := []) rfl rfl (.s (.tmp rfl) .z) (by repeat (first | exact .z | apply Rems.s Rem.z | apply Rems.s (Rem.s Rem.z) | apply Rems.s (Rem.s (Rem.s Rem.z)) | apply Rems.s (Rem.s (Rem.s (Rem.s Rem.z))) | apply Rems.s (Rem.s (Rem.s (Rem.s (Rem.s Rem.z)))) | apply Rems.s (Rem.s (Rem.s (Rem.s (Rem.s (Rem.s Rem.z))))) | apply Rems.s (Rem.s (Rem.s (Rem.s (Rem.s (Rem.s (Rem.s Rem.z)))))) | apply Rems.s (Rem.s (Rem.s (Rem.s (Rem.s (Rem.s (Rem.s (Rem.s Rem.z))))))) | apply Rems.s (Rem.s (Rem.s (Rem.s (Rem.s (Rem.s (Rem.s (Rem.s (Rem.s Rem.z)))))))) | apply Rems.s (Rem.s (Rem.s (Rem.s (Rem.s (Rem.s (Rem.s (Rem.s (Rem.s (Rem.s Rem.z))))))))))) ?_
      refine ⟨?_, rfl⟩
      first | (rw [show n - s = 0 by omega]; rfl; done) | (rw [courseL_get (by omega), show n - s - 1 + 1 = n - s by omega]; rfl; done)
  · first
    | (exfalso; omega)
    |
      refine R_nil ?_
      refine K_tn ?_
      refine K_cond_f rfl ?_
      refine K_skip ?_
      refine K_tn ?_
      refine K_seq ?_
      refine R_region ?_
      refine r_move rfl rfl rfl ?_
      refine r_move rfl rfl rfl ?_
      refine r_lenS sl_47 rfl rfl rfl ?_
      refine r_subN (b := 1) rfl rfl rfl rfl (i64K (by omega) (by omega)) (by omega) ?_
      refine r_indexS sl_47 sz_23 rfl rfl rfl rfl (by omega) ?_
      refine r_load ag_23 rfl rfl rfl (by first | exact .h .z | exact .h (.s .z) | exact .h (.s (.s .z)) | exact .h (.s (.s (.s .z))) | exact .h (.s (.s (.s (.s .z)))) | exact .h (.s (.s (.s (.s (.s .z))))) | exact .h (.s (.s (.s (.s (.s (.s .z)))))) | exact .h (.s (.s (.s (.s (.s (.s (.s .z))))))) | exact .h (.s (.s (.s (.s (.s (.s (.s (.s .z)))))))) | exact .x .z | exact .x (.s .z) | exact .x (.s (.s .z)) | exact .x (.s (.s (.s .z))) | exact .x (.s (.s (.s (.s .z)))) | exact .x (.s (.s (.s (.s (.s .z))))) | exact .x (.s (.s (.s (.s (.s (.s .z))))))) (by first | rfl | exact gC (by omega) | exact takeC (by omega) | exact takeC0 (by omega) | exact gF (by rw [courseL_len]; omega)) ?_
      refine r_assign rfl rfl rfl ?_
      refine R_nil ?_
      refine K_tn ?_
      refine K_ret ?_
      refine K_done (H' := []) rfl rfl (.s (.tmp rfl) .z) (by repeat (first | exact .z | apply Rems.s Rem.z | apply Rems.s (Rem.s Rem.z) | apply Rems.s (Rem.s (Rem.s Rem.z)) | apply Rems.s (Rem.s (Rem.s (Rem.s Rem.z))) | apply Rems.s (Rem.s (Rem.s (Rem.s (Rem.s Rem.z)))) | apply Rems.s (Rem.s (Rem.s (Rem.s (Rem.s (Rem.s Rem.z))))) | apply Rems.s (Rem.s (Rem.s (Rem.s (Rem.s (Rem.s (Rem.s Rem.z)))))) | apply Rems.s (Rem.s (Rem.s (Rem.s (Rem.s (Rem.s (Rem.s (Rem.s Rem.z))))))) | apply Rems.s (Rem.s (Rem.s (Rem.s (Rem.s (Rem.s (Rem.s (Rem.s (Rem.s Rem.z)))))))) | apply Rems.s (Rem.s (Rem.s (Rem.s (Rem.s (Rem.s (Rem.s (Rem.s (Rem.s (Rem.s Rem.z))))))))))) ?_
      refine ⟨?_, rfl⟩
      first | (rw [show n - s = 0 by omega]; rfl; done) | (rw [courseL_get (by omega), show n - s - 1 + 1 = n - s by omega]; rfl; done)

set_option maxRecDepth 20000 in
theorem spec_RipeAtEnd_no (n : Int) (rs : List Nat) (hl : rs.length = 16) (hn : -128 ≤ n ∧ n ≤ 127) (c g p : Nat) (hno : okV n rs [c, g, p] = false) : SpecV Try.prog 29 [.agg (.int .i8 (n : Int) :: fl .f32 rs).toArray, .float .f32 c, .float .f32 g, .float .f32 p] [] (packV [.float .f32 (ripeEnd n rs c g p), .int .i64 (askC n rs [c, g, p])]) := by
  refine spec_of Try.func29 rfl Try.ntmps29 rfl (fun w0 => ?_)
  refine K_seq ?_
  refine R_region ?_
  refine r_box rfl rfl rfl rfl (fun b4 => ?_)
  refine r_assign rfl rfl rfl ?_
  refine r_assign rfl rfl rfl ?_
  refine R_nil ?_
  refine K_tn ?_
  refine K_seq ?_
  refine K_seq ?_
  refine R_region ?_
  refine r_move rfl rfl rfl ?_
  refine r_move rfl rfl rfl ?_
  refine r_move rfl rfl rfl ?_
  refine r_buildSlice sl_47 sz_23 zr_23 rfl rfl rfl rfl rfl (by first | rfl) (fun b14 => ?_)
  refine r_callV cb_62 rfl rfl rfl rfl rfl (l04Asked _ _ _ hl (by first | assumption | omega) _ _ _ _ _ _ _ _ _ [c, g, p] rfl (fun i hi => gF0 (by simpa using hi)) _ (by simp)) (by repeat (first | exact .z | refine .s (.h .z) ?_ | refine .s (.h (.s .z)) ?_ | refine .s (.h (.s (.s .z))) ?_ | refine .s (.h (.s (.s (.s .z)))) ?_ | refine .s (.h (.s (.s (.s (.s .z))))) ?_ | refine .s (.h (.s (.s (.s (.s (.s .z)))))) ?_ | refine .s (.h (.s (.s (.s (.s (.s (.s .z))))))) ?_ | refine .s (.h (.s (.s (.s (.s (.s (.s (.s .z)))))))) ?_ | refine .s (.h (.s (.s (.s (.s (.s (.s (.s (.s .z))))))))) ?_ | refine .s (.x .z) ?_ | refine .s (.x (.s .z)) ?_ | refine .s (.x (.s (.s .z))) ?_ | refine .s (.x (.s (.s (.s .z)))) ?_ | refine .s (.x (.s (.s (.s (.s .z))))) ?_ | refine .s (.x (.s (.s (.s (.s (.s .z)))))) ?_ | refine .s (.x (.s (.s (.s (.s (.s (.s .z))))))) ?_)) ?_
  refine r_assign rfl rfl rfl ?_
  refine R_nil ?_
  refine K_tn ?_
  refine K_seq ?_
  refine R_region ?_
  refine r_move rfl rfl rfl ?_
  refine s_neq rfl rfl rfl rfl (fun h17 => ?_) (fun h17 => ?_)
  · first
    | (exfalso; first | (simp_all [told_zero, okV]; done) | (simp_all [told, okV]; done) | omega)
    |
      refine R_nil ?_
      refine K_tn ?_
      refine K_cond_t rfl ?_
      refine K_seq ?_
      refine R_region ?_
      refine r_move rfl rfl rfl ?_
      refine r_assign rfl rfl rfl ?_
      refine r_assign rfl rfl rfl ?_
      refine R_nil ?_
      refine K_tn ?_
      refine K_ret ?_
      refine K_tr ?_
      refine K_done (H' := []) rfl rfl (.s (.tmp rfl) (.s (.tmp rfl) .z)) (by repeat (first | exact .z | apply Rems.s Rem.z | apply Rems.s (Rem.s Rem.z) | apply Rems.s (Rem.s (Rem.s Rem.z)) | apply Rems.s (Rem.s (Rem.s (Rem.s Rem.z))) | apply Rems.s (Rem.s (Rem.s (Rem.s (Rem.s Rem.z)))) | apply Rems.s (Rem.s (Rem.s (Rem.s (Rem.s (Rem.s Rem.z))))) | apply Rems.s (Rem.s (Rem.s (Rem.s (Rem.s (Rem.s (Rem.s Rem.z)))))) | apply Rems.s (Rem.s (Rem.s (Rem.s (Rem.s (Rem.s (Rem.s (Rem.s Rem.z))))))) | apply Rems.s (Rem.s (Rem.s (Rem.s (Rem.s (Rem.s (Rem.s (Rem.s (Rem.s Rem.z)))))))) | apply Rems.s (Rem.s (Rem.s (Rem.s (Rem.s (Rem.s (Rem.s (Rem.s (Rem.s (Rem.s Rem.z))))))))))) ?_
      refine ⟨?_, rfl⟩
      unfold ripeEnd; simp_all [packV, askC]
  · first
    | (exfalso; first | (simp_all [told_zero, okV]; done) | (simp_all [told, okV]; done) | omega)
    |
      refine R_nil ?_
      refine K_tn ?_
      refine K_cond_f rfl ?_
      refine K_skip ?_
      refine K_tn ?_
      refine K_seq ?_
      refine R_region ?_
      refine r_move rfl rfl rfl ?_
      refine r_move rfl rfl rfl ?_
      refine r_move rfl rfl rfl ?_
      refine r_callV cb_73 rfl rfl rfl rfl rfl (l04Ripe _ _ _ (by assumption) (by omega) _ _ c g p 0 (by assumption) (by assumption) (by assumption) (by assumption) (Nat.zero_le _)) (by repeat (first | exact .z | refine .s (.h .z) ?_ | refine .s (.h (.s .z)) ?_ | refine .s (.h (.s (.s .z))) ?_ | refine .s (.h (.s (.s (.s .z)))) ?_ | refine .s (.h (.s (.s (.s (.s .z))))) ?_ | refine .s (.h (.s (.s (.s (.s (.s .z)))))) ?_ | refine .s (.h (.s (.s (.s (.s (.s (.s .z))))))) ?_ | refine .s (.h (.s (.s (.s (.s (.s (.s (.s .z)))))))) ?_ | refine .s (.h (.s (.s (.s (.s (.s (.s (.s (.s .z))))))))) ?_ | refine .s (.x .z) ?_ | refine .s (.x (.s .z)) ?_ | refine .s (.x (.s (.s .z))) ?_ | refine .s (.x (.s (.s (.s .z)))) ?_ | refine .s (.x (.s (.s (.s (.s .z))))) ?_ | refine .s (.x (.s (.s (.s (.s (.s .z)))))) ?_ | refine .s (.x (.s (.s (.s (.s (.s (.s .z))))))) ?_)) ?_
      refine r_assign rfl rfl rfl ?_
      refine r_assign rfl rfl rfl ?_
      refine R_nil ?_
      refine K_tn ?_
      refine K_ret ?_
      refine K_done (H' := []) rfl rfl (.s (.tmp rfl) (.s (.tmp rfl) .z)) (by repeat (first | exact .z | apply Rems.s Rem.z | apply Rems.s (Rem.s Rem.z) | apply Rems.s (Rem.s (Rem.s Rem.z)) | apply Rems.s (Rem.s (Rem.s (Rem.s Rem.z))) | apply Rems.s (Rem.s (Rem.s (Rem.s (Rem.s Rem.z)))) | apply Rems.s (Rem.s (Rem.s (Rem.s (Rem.s (Rem.s Rem.z))))) | apply Rems.s (Rem.s (Rem.s (Rem.s (Rem.s (Rem.s (Rem.s Rem.z)))))) | apply Rems.s (Rem.s (Rem.s (Rem.s (Rem.s (Rem.s (Rem.s (Rem.s Rem.z))))))) | apply Rems.s (Rem.s (Rem.s (Rem.s (Rem.s (Rem.s (Rem.s (Rem.s (Rem.s Rem.z)))))))) | apply Rems.s (Rem.s (Rem.s (Rem.s (Rem.s (Rem.s (Rem.s (Rem.s (Rem.s (Rem.s Rem.z))))))))))) ?_
      refine ⟨?_, rfl⟩
      unfold ripeEnd; simp_all [packV, askC]

set_option maxRecDepth 20000 in
theorem spec_RipeAtEnd_ok (n : Nat) (rs : List Nat) (hl : rs.length = 16) (hn : n ≤ 16) (c g p : Nat) (hv : vCrate n rs = true) (hc : isPart c = true) (hg : isPart g = true) (hp : isPart p = true) : SpecV Try.prog 29 [.agg (.int .i8 (n : Int) :: fl .f32 rs).toArray, .float .f32 c, .float .f32 g, .float .f32 p] [] (packV [.float .f32 (ripeEnd n rs c g p), .int .i64 (askC n rs [c, g, p])]) := by
  refine spec_of Try.func29 rfl Try.ntmps29 rfl (fun w0 => ?_)
  have hn2 : -128 ≤ (n : Int) ∧ (n : Int) ≤ 127 := by omega
  have hok : okV (n : Int) rs [c, g, p] = true := by simp [okV, hv, hc, hg, hp]
  have hask : askC (n : Int) rs [c, g, p] = 0 := by simp [askC, told, hv, hc, hg, hp]
  refine K_seq ?_
  refine R_region ?_
  refine r_box rfl rfl rfl rfl (fun b4 => ?_)
  refine r_assign rfl rfl rfl ?_
  refine r_assign rfl rfl rfl ?_
  refine R_nil ?_
  refine K_tn ?_
  refine K_seq ?_
  refine K_seq ?_
  refine R_region ?_
  refine r_move rfl rfl rfl ?_
  refine r_move rfl rfl rfl ?_
  refine r_move rfl rfl rfl ?_
  refine r_buildSlice sl_47 sz_23 zr_23 rfl rfl rfl rfl rfl (by first | rfl) (fun b14 => ?_)
  refine r_callV cb_62 rfl rfl rfl rfl rfl (l04Asked _ _ _ hl (by first | assumption | omega) _ _ _ _ _ _ _ _ _ [c, g, p] rfl (fun i hi => gF0 (by simpa using hi)) _ (by simp)) (by repeat (first | exact .z | refine .s (.h .z) ?_ | refine .s (.h (.s .z)) ?_ | refine .s (.h (.s (.s .z))) ?_ | refine .s (.h (.s (.s (.s .z)))) ?_ | refine .s (.h (.s (.s (.s (.s .z))))) ?_ | refine .s (.h (.s (.s (.s (.s (.s .z)))))) ?_ | refine .s (.h (.s (.s (.s (.s (.s (.s .z))))))) ?_ | refine .s (.h (.s (.s (.s (.s (.s (.s (.s .z)))))))) ?_ | refine .s (.h (.s (.s (.s (.s (.s (.s (.s (.s .z))))))))) ?_ | refine .s (.x .z) ?_ | refine .s (.x (.s .z)) ?_ | refine .s (.x (.s (.s .z))) ?_ | refine .s (.x (.s (.s (.s .z)))) ?_ | refine .s (.x (.s (.s (.s (.s .z))))) ?_ | refine .s (.x (.s (.s (.s (.s (.s .z)))))) ?_ | refine .s (.x (.s (.s (.s (.s (.s (.s .z))))))) ?_)) ?_
  refine r_assign rfl rfl rfl ?_
  refine R_nil ?_
  refine K_tn ?_
  refine K_seq ?_
  refine R_region ?_
  refine r_move rfl rfl rfl ?_
  refine s_neq rfl rfl rfl rfl (fun h17 => ?_) (fun h17 => ?_)
  · first
    | (exfalso; first | (simp_all [told_zero, okV]; done) | (simp_all [told, okV]; done) | omega)
    |
      refine R_nil ?_
      refine K_tn ?_
      refine K_cond_t rfl ?_
      refine K_seq ?_
      refine R_region ?_
      refine r_move rfl rfl rfl ?_
      refine r_assign rfl rfl rfl ?_
      refine r_assign rfl rfl rfl ?_
      refine R_nil ?_
      refine K_tn ?_
      refine K_ret ?_
      refine K_tr ?_
      refine K_done (H' := []) rfl rfl (.s (.tmp rfl) (.s (.tmp rfl) .z)) (by repeat (first | exact .z | apply Rems.s Rem.z | apply Rems.s (Rem.s Rem.z) | apply Rems.s (Rem.s (Rem.s Rem.z)) | apply Rems.s (Rem.s (Rem.s (Rem.s Rem.z))) | apply Rems.s (Rem.s (Rem.s (Rem.s (Rem.s Rem.z)))) | apply Rems.s (Rem.s (Rem.s (Rem.s (Rem.s (Rem.s Rem.z))))) | apply Rems.s (Rem.s (Rem.s (Rem.s (Rem.s (Rem.s (Rem.s Rem.z)))))) | apply Rems.s (Rem.s (Rem.s (Rem.s (Rem.s (Rem.s (Rem.s (Rem.s Rem.z))))))) | apply Rems.s (Rem.s (Rem.s (Rem.s (Rem.s (Rem.s (Rem.s (Rem.s (Rem.s Rem.z)))))))) | apply Rems.s (Rem.s (Rem.s (Rem.s (Rem.s (Rem.s (Rem.s (Rem.s (Rem.s (Rem.s Rem.z))))))))))) ?_
      refine ⟨?_, rfl⟩
      rw [hask]; simp [packV, ripeEnd, hok]
  · first
    | (exfalso; first | (simp_all [told_zero, okV]; done) | (simp_all [told, okV]; done) | omega)
    |
      refine R_nil ?_
      refine K_tn ?_
      refine K_cond_f rfl ?_
      refine K_skip ?_
      refine K_tn ?_
      refine K_seq ?_
      refine R_region ?_
      refine r_move rfl rfl rfl ?_
      refine r_move rfl rfl rfl ?_
      refine r_move rfl rfl rfl ?_
      refine r_callV cb_73 rfl rfl rfl rfl rfl (l04Ripe _ _ _ (by assumption) (by omega) _ _ c g p 0 (by assumption) (by assumption) (by assumption) (by assumption) (Nat.zero_le _)) (by repeat (first | exact .z | refine .s (.h .z) ?_ | refine .s (.h (.s .z)) ?_ | refine .s (.h (.s (.s .z))) ?_ | refine .s (.h (.s (.s (.s .z)))) ?_ | refine .s (.h (.s (.s (.s (.s .z))))) ?_ | refine .s (.h (.s (.s (.s (.s (.s .z)))))) ?_ | refine .s (.h (.s (.s (.s (.s (.s (.s .z))))))) ?_ | refine .s (.h (.s (.s (.s (.s (.s (.s (.s .z)))))))) ?_ | refine .s (.h (.s (.s (.s (.s (.s (.s (.s (.s .z))))))))) ?_ | refine .s (.x .z) ?_ | refine .s (.x (.s .z)) ?_ | refine .s (.x (.s (.s .z))) ?_ | refine .s (.x (.s (.s (.s .z)))) ?_ | refine .s (.x (.s (.s (.s (.s .z))))) ?_ | refine .s (.x (.s (.s (.s (.s (.s .z)))))) ?_ | refine .s (.x (.s (.s (.s (.s (.s (.s .z))))))) ?_)) ?_
      refine r_assign rfl rfl rfl ?_
      refine r_assign rfl rfl rfl ?_
      refine R_nil ?_
      refine K_tn ?_
      refine K_ret ?_
      refine K_done (H' := []) rfl rfl (.s (.tmp rfl) (.s (.tmp rfl) .z)) (by repeat (first | exact .z | apply Rems.s Rem.z | apply Rems.s (Rem.s Rem.z) | apply Rems.s (Rem.s (Rem.s Rem.z)) | apply Rems.s (Rem.s (Rem.s (Rem.s Rem.z))) | apply Rems.s (Rem.s (Rem.s (Rem.s (Rem.s Rem.z)))) | apply Rems.s (Rem.s (Rem.s (Rem.s (Rem.s (Rem.s Rem.z))))) | apply Rems.s (Rem.s (Rem.s (Rem.s (Rem.s (Rem.s (Rem.s Rem.z)))))) | apply Rems.s (Rem.s (Rem.s (Rem.s (Rem.s (Rem.s (Rem.s (Rem.s Rem.z))))))) | apply Rems.s (Rem.s (Rem.s (Rem.s (Rem.s (Rem.s (Rem.s (Rem.s (Rem.s Rem.z)))))))) | apply Rems.s (Rem.s (Rem.s (Rem.s (Rem.s (Rem.s (Rem.s (Rem.s (Rem.s (Rem.s Rem.z))))))))))) ?_
      refine ⟨?_, rfl⟩
      rw [hask]; simp [packV, ripeEnd, hok]

theorem spec_RipeAtEnd (n : Int) (rs : List Nat) (hl : rs.length = 16) (hn : -128 ≤ n ∧ n ≤ 127) (c g p : Nat) : SpecV Try.prog 29 [.agg (.int .i8 (n : Int) :: fl .f32 rs).toArray, .float .f32 c, .float .f32 g, .float .f32 p] [] (packV [.float .f32 (ripeEnd n rs c g p), .int .i64 (askC n rs [c, g, p])]) := by
  cases h : okV n rs [c, g, p] with
  | false => exact spec_RipeAtEnd_no n rs hl hn c g p h
  | true =>
    unfold okV at h
    simp only [Bool.and_eq_true, List.all_cons, List.all_nil, Bool.and_true] at h
    have h0 := vCrate_in h.1
    obtain ⟨nn0, rfl⟩ := Int.eq_ofNat_of_zero_le h0.1
    exact spec_RipeAtEnd_ok nn0 rs hl (by omega) c g p h.1 h.2.1 h.2.2.1 h.2.2.2

set_option maxRecDepth 20000 in
theorem impl_RipeAtEnd_no (n : Int) (rs : List Nat) (hl : rs.length = 16) (hn : -128 ≤ n ∧ n ≤ 127) (c g p : Nat) (hno : okV n rs [c, g, p] = false) : SpecV Try.prog 30 [.agg (.int .i8 (n : Int) :: fl .f32 rs).toArray, .float .f32 c, .float .f32 g, .float .f32 p] [] (packV [.float .f32 (ripeEnd n rs c g p), .int .i64 (askC n rs [c, g, p])]) := by
  refine spec_of Try.func30 rfl Try.ntmps30 rfl (fun w0 => ?_)
  refine K_seq ?_
  refine R_region ?_
  refine r_box rfl rfl rfl rfl (fun b4 => ?_)
  refine r_assign rfl rfl rfl ?_
  refine r_assign rfl rfl rfl ?_
  refine R_nil ?_
  refine K_tn ?_
  refine K_seq ?_
  refine K_seq ?_
  refine R_region ?_
  refine r_loadA ag_28 sz_28 rfl rfl rfl (by first | exact .h .z | exact .h (.s .z) | exact .h (.s (.s .z)) | exact .h (.s (.s (.s .z))) | exact .h (.s (.s (.s (.s .z)))) | exact .h (.s (.s (.s (.s (.s .z))))) | exact .h (.s (.s (.s (.s (.s (.s .z)))))) | exact .h (.s (.s (.s (.s (.s (.s (.s .z))))))) | exact .h (.s (.s (.s (.s (.s (.s (.s (.s .z)))))))) | exact .x .z | exact .x (.s .z) | exact .x (.s (.s .z)) | exact .x (.s (.s (.s .z))) | exact .x (.s (.s (.s (.s .z)))) | exact .x (.s (.s (.s (.s (.s .z))))) | exact .x (.s (.s (.s (.s (.s (.s .z))))))) (by first | rfl | exact gC (by omega) | exact takeC (by omega) | exact takeC0 (by omega)) ?_
  refine r_move rfl rfl rfl ?_
  refine r_move rfl rfl rfl ?_
  refine r_move rfl rfl rfl ?_
  refine r_buildSlice sl_47 sz_23 zr_23 rfl rfl rfl rfl rfl (by first | rfl) (fun b15 => ?_)
  refine r_callV cb_69 rfl rfl rfl rfl rfl (voyageCode _ _ hl (by first | assumption | omega) _ _ _ _ _ _ _ [c, g, p] rfl (fun i hi => gF0 (by simpa using hi)) (by simp)) (by repeat (first | exact .z | refine .s (.h .z) ?_ | refine .s (.h (.s .z)) ?_ | refine .s (.h (.s (.s .z))) ?_ | refine .s (.h (.s (.s (.s .z)))) ?_ | refine .s (.h (.s (.s (.s (.s .z))))) ?_ | refine .s (.h (.s (.s (.s (.s (.s .z)))))) ?_ | refine .s (.h (.s (.s (.s (.s (.s (.s .z))))))) ?_ | refine .s (.h (.s (.s (.s (.s (.s (.s (.s .z)))))))) ?_ | refine .s (.h (.s (.s (.s (.s (.s (.s (.s (.s .z))))))))) ?_ | refine .s (.x .z) ?_ | refine .s (.x (.s .z)) ?_ | refine .s (.x (.s (.s .z))) ?_ | refine .s (.x (.s (.s (.s .z)))) ?_ | refine .s (.x (.s (.s (.s (.s .z))))) ?_ | refine .s (.x (.s (.s (.s (.s (.s .z)))))) ?_ | refine .s (.x (.s (.s (.s (.s (.s (.s .z))))))) ?_)) ?_
  refine r_assign rfl rfl rfl ?_
  refine R_nil ?_
  refine K_tn ?_
  refine K_seq ?_
  refine R_region ?_
  refine r_move rfl rfl rfl ?_
  refine s_neq rfl rfl rfl rfl (fun h18 => ?_) (fun h18 => ?_)
  · first
    | (exfalso; first | (simp_all [told_zero, okV]; done) | (simp_all [told, okV]; done) | omega)
    |
      refine R_nil ?_
      refine K_tn ?_
      refine K_cond_t rfl ?_
      refine K_seq ?_
      refine R_region ?_
      refine r_move rfl rfl rfl ?_
      refine r_assign rfl rfl rfl ?_
      refine r_assign rfl rfl rfl ?_
      refine R_nil ?_
      refine K_tn ?_
      refine K_ret ?_
      refine K_tr ?_
      refine K_done (H' := []) rfl rfl (.s (.tmp rfl) (.s (.tmp rfl) .z)) (by repeat (first | exact .z | apply Rems.s Rem.z | apply Rems.s (Rem.s Rem.z) | apply Rems.s (Rem.s (Rem.s Rem.z)) | apply Rems.s (Rem.s (Rem.s (Rem.s Rem.z))) | apply Rems.s (Rem.s (Rem.s (Rem.s (Rem.s Rem.z)))) | apply Rems.s (Rem.s (Rem.s (Rem.s (Rem.s (Rem.s Rem.z))))) | apply Rems.s (Rem.s (Rem.s (Rem.s (Rem.s (Rem.s (Rem.s Rem.z)))))) | apply Rems.s (Rem.s (Rem.s (Rem.s (Rem.s (Rem.s (Rem.s (Rem.s Rem.z))))))) | apply Rems.s (Rem.s (Rem.s (Rem.s (Rem.s (Rem.s (Rem.s (Rem.s (Rem.s Rem.z)))))))) | apply Rems.s (Rem.s (Rem.s (Rem.s (Rem.s (Rem.s (Rem.s (Rem.s (Rem.s (Rem.s Rem.z))))))))))) ?_
      refine ⟨?_, rfl⟩
      unfold ripeEnd; simp_all [packV, askC]
  · first
    | (exfalso; first | (simp_all [told_zero, okV]; done) | (simp_all [told, okV]; done) | omega)
    |
      refine R_nil ?_
      refine K_tn ?_
      refine K_cond_f rfl ?_
      refine K_skip ?_
      refine K_tn ?_
      refine K_seq ?_
      refine R_region ?_
      refine r_loadA ag_28 sz_28 rfl rfl rfl (by first | exact .h .z | exact .h (.s .z) | exact .h (.s (.s .z)) | exact .h (.s (.s (.s .z))) | exact .h (.s (.s (.s (.s .z)))) | exact .h (.s (.s (.s (.s (.s .z))))) | exact .h (.s (.s (.s (.s (.s (.s .z)))))) | exact .h (.s (.s (.s (.s (.s (.s (.s .z))))))) | exact .h (.s (.s (.s (.s (.s (.s (.s (.s .z)))))))) | exact .x .z | exact .x (.s .z) | exact .x (.s (.s .z)) | exact .x (.s (.s (.s .z))) | exact .x (.s (.s (.s (.s .z)))) | exact .x (.s (.s (.s (.s (.s .z))))) | exact .x (.s (.s (.s (.s (.s (.s .z))))))) (by first | rfl | exact gC (by omega) | exact takeC (by omega) | exact takeC0 (by omega)) ?_
      refine r_move rfl rfl rfl ?_
      refine r_move rfl rfl rfl ?_
      refine r_move rfl rfl rfl ?_
      refine r_callV cb_74 rfl rfl rfl rfl rfl (atEnd _ _ (by assumption) (by omega) c g p 0 (by assumption) (by assumption) (by assumption) (by assumption) (Nat.zero_le _)) (by repeat (first | exact .z | refine .s (.h .z) ?_ | refine .s (.h (.s .z)) ?_ | refine .s (.h (.s (.s .z))) ?_ | refine .s (.h (.s (.s (.s .z)))) ?_ | refine .s (.h (.s (.s (.s (.s .z))))) ?_ | refine .s (.h (.s (.s (.s (.s (.s .z)))))) ?_ | refine .s (.h (.s (.s (.s (.s (.s (.s .z))))))) ?_ | refine .s (.h (.s (.s (.s (.s (.s (.s (.s .z)))))))) ?_ | refine .s (.h (.s (.s (.s (.s (.s (.s (.s (.s .z))))))))) ?_ | refine .s (.x .z) ?_ | refine .s (.x (.s .z)) ?_ | refine .s (.x (.s (.s .z))) ?_ | refine .s (.x (.s (.s (.s .z)))) ?_ | refine .s (.x (.s (.s (.s (.s .z))))) ?_ | refine .s (.x (.s (.s (.s (.s (.s .z)))))) ?_ | refine .s (.x (.s (.s (.s (.s (.s (.s .z))))))) ?_)) ?_
      refine r_assign rfl rfl rfl ?_
      refine r_assign rfl rfl rfl ?_
      refine R_nil ?_
      refine K_tn ?_
      refine K_ret ?_
      refine K_done (H' := []) rfl rfl (.s (.tmp rfl) (.s (.tmp rfl) .z)) (by repeat (first | exact .z | apply Rems.s Rem.z | apply Rems.s (Rem.s Rem.z) | apply Rems.s (Rem.s (Rem.s Rem.z)) | apply Rems.s (Rem.s (Rem.s (Rem.s Rem.z))) | apply Rems.s (Rem.s (Rem.s (Rem.s (Rem.s Rem.z)))) | apply Rems.s (Rem.s (Rem.s (Rem.s (Rem.s (Rem.s Rem.z))))) | apply Rems.s (Rem.s (Rem.s (Rem.s (Rem.s (Rem.s (Rem.s Rem.z)))))) | apply Rems.s (Rem.s (Rem.s (Rem.s (Rem.s (Rem.s (Rem.s (Rem.s Rem.z))))))) | apply Rems.s (Rem.s (Rem.s (Rem.s (Rem.s (Rem.s (Rem.s (Rem.s (Rem.s Rem.z)))))))) | apply Rems.s (Rem.s (Rem.s (Rem.s (Rem.s (Rem.s (Rem.s (Rem.s (Rem.s (Rem.s Rem.z))))))))))) ?_
      refine ⟨?_, rfl⟩
      unfold ripeEnd; simp_all [packV, askC]

set_option maxRecDepth 20000 in
theorem impl_RipeAtEnd_ok (n : Nat) (rs : List Nat) (hl : rs.length = 16) (hn : n ≤ 16) (c g p : Nat) (hv : vCrate n rs = true) (hc : isPart c = true) (hg : isPart g = true) (hp : isPart p = true) : SpecV Try.prog 30 [.agg (.int .i8 (n : Int) :: fl .f32 rs).toArray, .float .f32 c, .float .f32 g, .float .f32 p] [] (packV [.float .f32 (ripeEnd n rs c g p), .int .i64 (askC n rs [c, g, p])]) := by
  refine spec_of Try.func30 rfl Try.ntmps30 rfl (fun w0 => ?_)
  have hn2 : -128 ≤ (n : Int) ∧ (n : Int) ≤ 127 := by omega
  have hok : okV (n : Int) rs [c, g, p] = true := by simp [okV, hv, hc, hg, hp]
  have hask : askC (n : Int) rs [c, g, p] = 0 := by simp [askC, told, hv, hc, hg, hp]
  refine K_seq ?_
  refine R_region ?_
  refine r_box rfl rfl rfl rfl (fun b4 => ?_)
  refine r_assign rfl rfl rfl ?_
  refine r_assign rfl rfl rfl ?_
  refine R_nil ?_
  refine K_tn ?_
  refine K_seq ?_
  refine K_seq ?_
  refine R_region ?_
  refine r_loadA ag_28 sz_28 rfl rfl rfl (by first | exact .h .z | exact .h (.s .z) | exact .h (.s (.s .z)) | exact .h (.s (.s (.s .z))) | exact .h (.s (.s (.s (.s .z)))) | exact .h (.s (.s (.s (.s (.s .z))))) | exact .h (.s (.s (.s (.s (.s (.s .z)))))) | exact .h (.s (.s (.s (.s (.s (.s (.s .z))))))) | exact .h (.s (.s (.s (.s (.s (.s (.s (.s .z)))))))) | exact .x .z | exact .x (.s .z) | exact .x (.s (.s .z)) | exact .x (.s (.s (.s .z))) | exact .x (.s (.s (.s (.s .z)))) | exact .x (.s (.s (.s (.s (.s .z))))) | exact .x (.s (.s (.s (.s (.s (.s .z))))))) (by first | rfl | exact gC (by omega) | exact takeC (by omega) | exact takeC0 (by omega)) ?_
  refine r_move rfl rfl rfl ?_
  refine r_move rfl rfl rfl ?_
  refine r_move rfl rfl rfl ?_
  refine r_buildSlice sl_47 sz_23 zr_23 rfl rfl rfl rfl rfl (by first | rfl) (fun b15 => ?_)
  refine r_callV cb_69 rfl rfl rfl rfl rfl (voyageCode _ _ hl (by first | assumption | omega) _ _ _ _ _ _ _ [c, g, p] rfl (fun i hi => gF0 (by simpa using hi)) (by simp)) (by repeat (first | exact .z | refine .s (.h .z) ?_ | refine .s (.h (.s .z)) ?_ | refine .s (.h (.s (.s .z))) ?_ | refine .s (.h (.s (.s (.s .z)))) ?_ | refine .s (.h (.s (.s (.s (.s .z))))) ?_ | refine .s (.h (.s (.s (.s (.s (.s .z)))))) ?_ | refine .s (.h (.s (.s (.s (.s (.s (.s .z))))))) ?_ | refine .s (.h (.s (.s (.s (.s (.s (.s (.s .z)))))))) ?_ | refine .s (.h (.s (.s (.s (.s (.s (.s (.s (.s .z))))))))) ?_ | refine .s (.x .z) ?_ | refine .s (.x (.s .z)) ?_ | refine .s (.x (.s (.s .z))) ?_ | refine .s (.x (.s (.s (.s .z)))) ?_ | refine .s (.x (.s (.s (.s (.s .z))))) ?_ | refine .s (.x (.s (.s (.s (.s (.s .z)))))) ?_ | refine .s (.x (.s (.s (.s (.s (.s (.s .z))))))) ?_)) ?_
  refine r_assign rfl rfl rfl ?_
  refine R_nil ?_
  refine K_tn ?_
  refine K_seq ?_
  refine R_region ?_
  refine r_move rfl rfl rfl ?_
  refine s_neq rfl rfl rfl rfl (fun h18 => ?_) (fun h18 => ?_)
  · first
    | (exfalso; first | (simp_all [told_zero, okV]; done) | (simp_all [told, okV]; done) | omega)
    |
      refine R_nil ?_
      refine K_tn ?_
      refine K_cond_t rfl ?_
      refine K_seq ?_
      refine R_region ?_
      refine r_move rfl rfl rfl ?_
      refine r_assign rfl rfl rfl ?_
      refine r_assign rfl rfl rfl ?_
      refine R_nil ?_
      refine K_tn ?_
      refine K_ret ?_
      refine K_tr ?_
      refine K_done (H' := []) rfl rfl (.s (.tmp rfl) (.s (.tmp rfl) .z)) (by repeat (first | exact .z | apply Rems.s Rem.z | apply Rems.s (Rem.s Rem.z) | apply Rems.s (Rem.s (Rem.s Rem.z)) | apply Rems.s (Rem.s (Rem.s (Rem.s Rem.z))) | apply Rems.s (Rem.s (Rem.s (Rem.s (Rem.s Rem.z)))) | apply Rems.s (Rem.s (Rem.s (Rem.s (Rem.s (Rem.s Rem.z))))) | apply Rems.s (Rem.s (Rem.s (Rem.s (Rem.s (Rem.s (Rem.s Rem.z)))))) | apply Rems.s (Rem.s (Rem.s (Rem.s (Rem.s (Rem.s (Rem.s (Rem.s Rem.z))))))) | apply Rems.s (Rem.s (Rem.s (Rem.s (Rem.s (Rem.s (Rem.s (Rem.s (Rem.s Rem.z)))))))) | apply Rems.s (Rem.s (Rem.s (Rem.s (Rem.s (Rem.s (Rem.s (Rem.s (Rem.s (Rem.s Rem.z))))))))))) ?_
      refine ⟨?_, rfl⟩
      rw [hask]; simp [packV, ripeEnd, hok]
  · first
    | (exfalso; first | (simp_all [told_zero, okV]; done) | (simp_all [told, okV]; done) | omega)
    |
      refine R_nil ?_
      refine K_tn ?_
      refine K_cond_f rfl ?_
      refine K_skip ?_
      refine K_tn ?_
      refine K_seq ?_
      refine R_region ?_
      refine r_loadA ag_28 sz_28 rfl rfl rfl (by first | exact .h .z | exact .h (.s .z) | exact .h (.s (.s .z)) | exact .h (.s (.s (.s .z))) | exact .h (.s (.s (.s (.s .z)))) | exact .h (.s (.s (.s (.s (.s .z))))) | exact .h (.s (.s (.s (.s (.s (.s .z)))))) | exact .h (.s (.s (.s (.s (.s (.s (.s .z))))))) | exact .h (.s (.s (.s (.s (.s (.s (.s (.s .z)))))))) | exact .x .z | exact .x (.s .z) | exact .x (.s (.s .z)) | exact .x (.s (.s (.s .z))) | exact .x (.s (.s (.s (.s .z)))) | exact .x (.s (.s (.s (.s (.s .z))))) | exact .x (.s (.s (.s (.s (.s (.s .z))))))) (by first | rfl | exact gC (by omega) | exact takeC (by omega) | exact takeC0 (by omega)) ?_
      refine r_move rfl rfl rfl ?_
      refine r_move rfl rfl rfl ?_
      refine r_move rfl rfl rfl ?_
      refine r_callV cb_74 rfl rfl rfl rfl rfl (atEnd _ _ (by assumption) (by omega) c g p 0 (by assumption) (by assumption) (by assumption) (by assumption) (Nat.zero_le _)) (by repeat (first | exact .z | refine .s (.h .z) ?_ | refine .s (.h (.s .z)) ?_ | refine .s (.h (.s (.s .z))) ?_ | refine .s (.h (.s (.s (.s .z)))) ?_ | refine .s (.h (.s (.s (.s (.s .z))))) ?_ | refine .s (.h (.s (.s (.s (.s (.s .z)))))) ?_ | refine .s (.h (.s (.s (.s (.s (.s (.s .z))))))) ?_ | refine .s (.h (.s (.s (.s (.s (.s (.s (.s .z)))))))) ?_ | refine .s (.h (.s (.s (.s (.s (.s (.s (.s (.s .z))))))))) ?_ | refine .s (.x .z) ?_ | refine .s (.x (.s .z)) ?_ | refine .s (.x (.s (.s .z))) ?_ | refine .s (.x (.s (.s (.s .z)))) ?_ | refine .s (.x (.s (.s (.s (.s .z))))) ?_ | refine .s (.x (.s (.s (.s (.s (.s .z)))))) ?_ | refine .s (.x (.s (.s (.s (.s (.s (.s .z))))))) ?_)) ?_
      refine r_assign rfl rfl rfl ?_
      refine r_assign rfl rfl rfl ?_
      refine R_nil ?_
      refine K_tn ?_
      refine K_ret ?_
      refine K_done (H' := []) rfl rfl (.s (.tmp rfl) (.s (.tmp rfl) .z)) (by repeat (first | exact .z | apply Rems.s Rem.z | apply Rems.s (Rem.s Rem.z) | apply Rems.s (Rem.s (Rem.s Rem.z)) | apply Rems.s (Rem.s (Rem.s (Rem.s Rem.z))) | apply Rems.s (Rem.s (Rem.s (Rem.s (Rem.s Rem.z)))) | apply Rems.s (Rem.s (Rem.s (Rem.s (Rem.s (Rem.s Rem.z))))) | apply Rems.s (Rem.s (Rem.s (Rem.s (Rem.s (Rem.s (Rem.s Rem.z)))))) | apply Rems.s (Rem.s (Rem.s (Rem.s (Rem.s (Rem.s (Rem.s (Rem.s Rem.z))))))) | apply Rems.s (Rem.s (Rem.s (Rem.s (Rem.s (Rem.s (Rem.s (Rem.s (Rem.s Rem.z)))))))) | apply Rems.s (Rem.s (Rem.s (Rem.s (Rem.s (Rem.s (Rem.s (Rem.s (Rem.s (Rem.s Rem.z))))))))))) ?_
      refine ⟨?_, rfl⟩
      rw [hask]; simp [packV, ripeEnd, hok]

theorem impl_RipeAtEnd (n : Int) (rs : List Nat) (hl : rs.length = 16) (hn : -128 ≤ n ∧ n ≤ 127) (c g p : Nat) : SpecV Try.prog 30 [.agg (.int .i8 (n : Int) :: fl .f32 rs).toArray, .float .f32 c, .float .f32 g, .float .f32 p] [] (packV [.float .f32 (ripeEnd n rs c g p), .int .i64 (askC n rs [c, g, p])]) := by
  cases h : okV n rs [c, g, p] with
  | false => exact impl_RipeAtEnd_no n rs hl hn c g p h
  | true =>
    unfold okV at h
    simp only [Bool.and_eq_true, List.all_cons, List.all_nil, Bool.and_true] at h
    have h0 := vCrate_in h.1
    obtain ⟨nn0, rfl⟩ := Int.eq_ofNat_of_zero_le h0.1
    exact impl_RipeAtEnd_ok nn0 rs hl (by omega) c g p h.1 h.2.1 h.2.2.1 h.2.2.2

set_option maxRecDepth 20000 in
theorem law_RipeAtEnd (n : Int) (rs : List Nat) (hl : rs.length = 16) (hn : -128 ≤ n ∧ n ≤ 127) (c g p : Nat) : SpecV Try.prog 8 [.agg (.int .i8 n :: fl .f32 rs).toArray, .float .f32 c, .float .f32 g, .float .f32 p] [] (.bool true) := by
  refine spec_of Try.func8 rfl Try.ntmps8 rfl (fun w0 => ?_)
  have hw := w64_ok (ripeEnd_nan (n := n) (rs := rs) (c := c) (g := g) (p := p))
  have hw1 := hw.1
  have hw2 := hw.2
  refine K_seq ?_
  refine R_region ?_
  refine r_box rfl rfl rfl rfl (fun b4 => ?_)
  refine r_assign rfl rfl rfl ?_
  refine R_nil ?_
  refine K_tn ?_
  refine K_seq ?_
  refine R_region ?_
  refine r_loadA ag_26 sz_26 rfl rfl rfl (by first | exact .h .z | exact .h (.s .z) | exact .h (.s (.s .z)) | exact .h (.s (.s (.s .z))) | exact .h (.s (.s (.s (.s .z)))) | exact .h (.s (.s (.s (.s (.s .z))))) | exact .h (.s (.s (.s (.s (.s (.s .z)))))) | exact .h (.s (.s (.s (.s (.s (.s (.s .z))))))) | exact .h (.s (.s (.s (.s (.s (.s (.s (.s .z)))))))) | exact .x .z | exact .x (.s .z) | exact .x (.s (.s .z)) | exact .x (.s (.s (.s .z))) | exact .x (.s (.s (.s (.s .z)))) | exact .x (.s (.s (.s (.s (.s .z))))) | exact .x (.s (.s (.s (.s (.s (.s .z))))))) (by first | rfl | exact gC (by omega) | exact takeC (by omega) | exact takeC0 (by omega)) ?_
  refine r_callV cb_18 rfl rfl rfl rfl rfl (toVoyage _ _ (by assumption)) (by repeat (first | exact .z | refine .s (.h .z) ?_ | refine .s (.h (.s .z)) ?_ | refine .s (.h (.s (.s .z))) ?_ | refine .s (.h (.s (.s (.s .z)))) ?_ | refine .s (.h (.s (.s (.s (.s .z))))) ?_ | refine .s (.h (.s (.s (.s (.s (.s .z)))))) ?_ | refine .s (.h (.s (.s (.s (.s (.s (.s .z))))))) ?_ | refine .s (.h (.s (.s (.s (.s (.s (.s (.s .z)))))))) ?_ | refine .s (.h (.s (.s (.s (.s (.s (.s (.s (.s .z))))))))) ?_ | refine .s (.x .z) ?_ | refine .s (.x (.s .z)) ?_ | refine .s (.x (.s (.s .z))) ?_ | refine .s (.x (.s (.s (.s .z)))) ?_ | refine .s (.x (.s (.s (.s (.s .z))))) ?_ | refine .s (.x (.s (.s (.s (.s (.s .z)))))) ?_ | refine .s (.x (.s (.s (.s (.s (.s (.s .z))))))) ?_)) ?_
  refine r_move rfl rfl rfl ?_
  refine r_move rfl rfl rfl ?_
  refine r_move rfl rfl rfl ?_
  refine r_callV cb_29 rfl rfl rfl rfl rfl (spec_RipeAtEnd _ _ (by assumption) (by first | assumption | omega) _ _ _) (by repeat (first | exact .z | refine .s (.h .z) ?_ | refine .s (.h (.s .z)) ?_ | refine .s (.h (.s (.s .z))) ?_ | refine .s (.h (.s (.s (.s .z)))) ?_ | refine .s (.h (.s (.s (.s (.s .z))))) ?_ | refine .s (.h (.s (.s (.s (.s (.s .z)))))) ?_ | refine .s (.h (.s (.s (.s (.s (.s (.s .z))))))) ?_ | refine .s (.h (.s (.s (.s (.s (.s (.s (.s .z)))))))) ?_ | refine .s (.h (.s (.s (.s (.s (.s (.s (.s (.s .z))))))))) ?_ | refine .s (.x .z) ?_ | refine .s (.x (.s .z)) ?_ | refine .s (.x (.s (.s .z))) ?_ | refine .s (.x (.s (.s (.s .z)))) ?_ | refine .s (.x (.s (.s (.s (.s .z))))) ?_ | refine .s (.x (.s (.s (.s (.s (.s .z)))))) ?_ | refine .s (.x (.s (.s (.s (.s (.s (.s .z))))))) ?_)) ?_
  refine r_move rfl rfl rfl ?_
  refine r_extract rfl rfl rfl rfl ?_
  refine r_extract rfl rfl rfl rfl ?_
  refine r_assign rfl rfl rfl ?_
  refine r_assign rfl rfl rfl ?_
  refine R_nil ?_
  refine K_tn ?_
  refine K_seq ?_
  refine R_region ?_
  refine r_loadA ag_26 sz_26 rfl rfl rfl (by first | exact .h .z | exact .h (.s .z) | exact .h (.s (.s .z)) | exact .h (.s (.s (.s .z))) | exact .h (.s (.s (.s (.s .z)))) | exact .h (.s (.s (.s (.s (.s .z))))) | exact .h (.s (.s (.s (.s (.s (.s .z)))))) | exact .h (.s (.s (.s (.s (.s (.s (.s .z))))))) | exact .h (.s (.s (.s (.s (.s (.s (.s (.s .z)))))))) | exact .x .z | exact .x (.s .z) | exact .x (.s (.s .z)) | exact .x (.s (.s (.s .z))) | exact .x (.s (.s (.s (.s .z)))) | exact .x (.s (.s (.s (.s (.s .z))))) | exact .x (.s (.s (.s (.s (.s (.s .z))))))) (by first | rfl | exact gC (by omega) | exact takeC (by omega) | exact takeC0 (by omega)) ?_
  refine r_callV cb_18 rfl rfl rfl rfl rfl (toVoyage _ _ (by assumption)) (by repeat (first | exact .z | refine .s (.h .z) ?_ | refine .s (.h (.s .z)) ?_ | refine .s (.h (.s (.s .z))) ?_ | refine .s (.h (.s (.s (.s .z)))) ?_ | refine .s (.h (.s (.s (.s (.s .z))))) ?_ | refine .s (.h (.s (.s (.s (.s (.s .z)))))) ?_ | refine .s (.h (.s (.s (.s (.s (.s (.s .z))))))) ?_ | refine .s (.h (.s (.s (.s (.s (.s (.s (.s .z)))))))) ?_ | refine .s (.h (.s (.s (.s (.s (.s (.s (.s (.s .z))))))))) ?_ | refine .s (.x .z) ?_ | refine .s (.x (.s .z)) ?_ | refine .s (.x (.s (.s .z))) ?_ | refine .s (.x (.s (.s (.s .z)))) ?_ | refine .s (.x (.s (.s (.s (.s .z))))) ?_ | refine .s (.x (.s (.s (.s (.s (.s .z)))))) ?_ | refine .s (.x (.s (.s (.s (.s (.s (.s .z))))))) ?_)) ?_
  refine r_move rfl rfl rfl ?_
  refine r_move rfl rfl rfl ?_
  refine r_move rfl rfl rfl ?_
  refine r_callV cb_30 rfl rfl rfl rfl rfl (impl_RipeAtEnd _ _ (by assumption) (by first | assumption | omega) _ _ _) (by repeat (first | exact .z | refine .s (.h .z) ?_ | refine .s (.h (.s .z)) ?_ | refine .s (.h (.s (.s .z))) ?_ | refine .s (.h (.s (.s (.s .z)))) ?_ | refine .s (.h (.s (.s (.s (.s .z))))) ?_ | refine .s (.h (.s (.s (.s (.s (.s .z)))))) ?_ | refine .s (.h (.s (.s (.s (.s (.s (.s .z))))))) ?_ | refine .s (.h (.s (.s (.s (.s (.s (.s (.s .z)))))))) ?_ | refine .s (.h (.s (.s (.s (.s (.s (.s (.s (.s .z))))))))) ?_ | refine .s (.x .z) ?_ | refine .s (.x (.s .z)) ?_ | refine .s (.x (.s (.s .z))) ?_ | refine .s (.x (.s (.s (.s .z)))) ?_ | refine .s (.x (.s (.s (.s (.s .z))))) ?_ | refine .s (.x (.s (.s (.s (.s (.s .z)))))) ?_ | refine .s (.x (.s (.s (.s (.s (.s (.s .z))))))) ?_)) ?_
  refine r_move rfl rfl rfl ?_
  refine r_extract rfl rfl rfl rfl ?_
  refine r_extract rfl rfl rfl rfl ?_
  refine r_assign rfl rfl rfl ?_
  refine r_assign rfl rfl rfl ?_
  refine R_nil ?_
  refine K_tn ?_
  refine K_seq ?_
  refine K_seq ?_
  refine R_region ?_
  refine r_move rfl rfl rfl ?_
  refine r_convFF ⟨_, un_23⟩ un_36 rfl rfl rfl (by assumption) ?_
  refine r_move rfl rfl rfl ?_
  refine r_convFF ⟨_, un_23⟩ un_36 rfl rfl rfl (by assumption) ?_
  refine s_callV cb_24 rfl rfl rfl rfl rfl (sameFloat_num _ (by assumption)) (by repeat (first | exact .z | refine .s (.h .z) ?_ | refine .s (.h (.s .z)) ?_ | refine .s (.h (.s (.s .z))) ?_ | refine .s (.h (.s (.s (.s .z)))) ?_ | refine .s (.h (.s (.s (.s (.s .z))))) ?_ | refine .s (.h (.s (.s (.s (.s (.s .z)))))) ?_ | refine .s (.h (.s (.s (.s (.s (.s (.s .z))))))) ?_ | refine .s (.h (.s (.s (.s (.s (.s (.s (.s .z)))))))) ?_ | refine .s (.h (.s (.s (.s (.s (.s (.s (.s (.s .z))))))))) ?_ | refine .s (.x .z) ?_ | refine .s (.x (.s .z)) ?_ | refine .s (.x (.s (.s .z))) ?_ | refine .s (.x (.s (.s (.s .z)))) ?_ | refine .s (.x (.s (.s (.s (.s .z))))) ?_ | refine .s (.x (.s (.s (.s (.s (.s .z)))))) ?_ | refine .s (.x (.s (.s (.s (.s (.s (.s .z))))))) ?_)) (fun h35 => ?_) (fun h35 => ?_)
  · first
    | (exfalso; first | omega | (simp_all; done))
    |
      refine r_not rfl rfl rfl ?_
      refine r_move rfl rfl rfl ?_
      refine r_move rfl rfl rfl ?_
      refine r_move rfl rfl rfl ?_
      refine s_neq rfl rfl rfl rfl (fun h40 => ?_) (fun h40 => ?_)
      · first
        | (exfalso; first | omega | (simp_all; done))
        |
          refine r_pick_f rfl rfl rfl rfl ?_
          refine R_nil ?_
          refine K_tn ?_
          refine K_cond_t rfl ?_
          refine K_seq ?_
          refine R_region ?_
          refine r_assign rfl rfl rfl ?_
          refine R_nil ?_
          refine K_tn ?_
          refine K_ret ?_
          refine K_tr ?_
          refine K_done (H' := []) rfl rfl (.s (.tmp rfl) .z) (by repeat (first | exact .z | apply Rems.s Rem.z | apply Rems.s (Rem.s Rem.z) | apply Rems.s (Rem.s (Rem.s Rem.z)) | apply Rems.s (Rem.s (Rem.s (Rem.s Rem.z))) | apply Rems.s (Rem.s (Rem.s (Rem.s (Rem.s Rem.z)))) | apply Rems.s (Rem.s (Rem.s (Rem.s (Rem.s (Rem.s Rem.z))))) | apply Rems.s (Rem.s (Rem.s (Rem.s (Rem.s (Rem.s (Rem.s Rem.z)))))) | apply Rems.s (Rem.s (Rem.s (Rem.s (Rem.s (Rem.s (Rem.s (Rem.s Rem.z))))))) | apply Rems.s (Rem.s (Rem.s (Rem.s (Rem.s (Rem.s (Rem.s (Rem.s (Rem.s Rem.z)))))))) | apply Rems.s (Rem.s (Rem.s (Rem.s (Rem.s (Rem.s (Rem.s (Rem.s (Rem.s (Rem.s Rem.z))))))))))) ?_
          refine ⟨?_, rfl⟩
          simp [packV, *]
      · first
        | (exfalso; first | omega | (simp_all; done))
        |
          refine r_pick_f rfl rfl rfl rfl ?_
          refine R_nil ?_
          refine K_tn ?_
          refine K_cond_f rfl ?_
          refine K_skip ?_
          refine K_tn ?_
          refine K_seq ?_
          refine R_region ?_
          refine r_assign rfl rfl rfl ?_
          refine R_nil ?_
          refine K_tn ?_
          refine K_ret ?_
          refine K_done (H' := []) rfl rfl (.s (.tmp rfl) .z) (by repeat (first | exact .z | apply Rems.s Rem.z | apply Rems.s (Rem.s Rem.z) | apply Rems.s (Rem.s (Rem.s Rem.z)) | apply Rems.s (Rem.s (Rem.s (Rem.s Rem.z))) | apply Rems.s (Rem.s (Rem.s (Rem.s (Rem.s Rem.z)))) | apply Rems.s (Rem.s (Rem.s (Rem.s (Rem.s (Rem.s Rem.z))))) | apply Rems.s (Rem.s (Rem.s (Rem.s (Rem.s (Rem.s (Rem.s Rem.z)))))) | apply Rems.s (Rem.s (Rem.s (Rem.s (Rem.s (Rem.s (Rem.s (Rem.s Rem.z))))))) | apply Rems.s (Rem.s (Rem.s (Rem.s (Rem.s (Rem.s (Rem.s (Rem.s (Rem.s Rem.z)))))))) | apply Rems.s (Rem.s (Rem.s (Rem.s (Rem.s (Rem.s (Rem.s (Rem.s (Rem.s (Rem.s Rem.z))))))))))) ?_
          refine ⟨?_, rfl⟩
          simp [packV, *]
  · first
    | (exfalso; first | omega | (simp_all; done))
    |
      refine r_not rfl rfl rfl ?_
      refine r_move rfl rfl rfl ?_
      refine r_skip rfl rfl ?_
      refine r_skip rfl rfl ?_
      refine r_skip rfl rfl ?_
      refine r_pick_t rfl rfl rfl rfl ?_
      refine R_nil ?_
      refine K_tn ?_
      refine K_cond_t rfl ?_
      refine K_seq ?_
      refine R_region ?_
      refine r_assign rfl rfl rfl ?_
      refine R_nil ?_
      refine K_tn ?_
      refine K_ret ?_
      refine K_tr ?_
      refine K_done (H' := []) rfl rfl (.s (.tmp rfl) .z) (by repeat (first | exact .z | apply Rems.s Rem.z | apply Rems.s (Rem.s Rem.z) | apply Rems.s (Rem.s (Rem.s Rem.z)) | apply Rems.s (Rem.s (Rem.s (Rem.s Rem.z))) | apply Rems.s (Rem.s (Rem.s (Rem.s (Rem.s Rem.z)))) | apply Rems.s (Rem.s (Rem.s (Rem.s (Rem.s (Rem.s Rem.z))))) | apply Rems.s (Rem.s (Rem.s (Rem.s (Rem.s (Rem.s (Rem.s Rem.z)))))) | apply Rems.s (Rem.s (Rem.s (Rem.s (Rem.s (Rem.s (Rem.s (Rem.s Rem.z))))))) | apply Rems.s (Rem.s (Rem.s (Rem.s (Rem.s (Rem.s (Rem.s (Rem.s (Rem.s Rem.z)))))))) | apply Rems.s (Rem.s (Rem.s (Rem.s (Rem.s (Rem.s (Rem.s (Rem.s (Rem.s (Rem.s Rem.z))))))))))) ?_
      refine ⟨?_, rfl⟩
      simp [packV, *]

end Go.Proofs.Ytpanpkmheeenjaa
