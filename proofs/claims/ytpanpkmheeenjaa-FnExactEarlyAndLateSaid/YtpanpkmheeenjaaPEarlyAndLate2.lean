/- Walks of the functions of the program and of the reference, and what each of them returns. -/
import Derived.Test.YtpanpkmheeenjaaPEarlyAndLate1
set_option linter.unusedVariables false
set_option linter.unusedSimpArgs false
namespace Go.Proofs.Ytpanpkmheeenjaa
open Go.Sl
set_option maxRecDepth 20000 in
theorem arrive (n : Nat) (rs : List Nat) (hl : rs.length = 16) (hn : n ≤ 16) (c g : Nat) (hv : vCrate n rs = true) (hc : isPart c = true) (hg : isPart g = true) (m : Nat) (fs : List Nat) (hf : fs.length = 16) (hm : m ≤ 16) (hvm : vCrate m fs = true) : SpecV Try.prog 84 [.agg (.int .i8 (n : Int) :: fl .f32 rs).toArray, .float .f32 c, .float .f32 g, .agg (.int .i8 (m : Int) :: fl .f32 fs).toArray] [] (.agg (.int .i8 (m : Int) :: fl .f32 (mapTo (arrF n rs c g) m fs)).toArray) := by
  refine spec_of Try.func84 rfl Try.ntmps84 rfl (fun w0 => ?_)
  have h0 : mapTo (arrF n rs c g) 0 fs = fs := rfl
  refine K_seq ?_
  refine R_region ?_
  refine r_box rfl rfl rfl rfl (fun b4 => ?_)
  refine r_box rfl rfl rfl rfl (fun b7 => ?_)
  refine r_alloc zr_54 rfl rfl (fun b8 => ?_)
  refine R_nil ?_
  refine K_tn ?_
  refine K_seq ?_
  refine K_seq ?_
  refine R_region ?_
  refine r_callV cb_100 rfl rfl rfl rfl rfl (fruits _ _ _ (by omega) _ _) (by repeat (first | exact .z | refine .s (.h .z) ?_ | refine .s (.h (.s .z)) ?_ | refine .s (.h (.s (.s .z))) ?_ | refine .s (.h (.s (.s (.s .z)))) ?_ | refine .s (.h (.s (.s (.s (.s .z))))) ?_ | refine .s (.h (.s (.s (.s (.s (.s .z)))))) ?_ | refine .s (.h (.s (.s (.s (.s (.s (.s .z))))))) ?_ | refine .s (.h (.s (.s (.s (.s (.s (.s (.s .z)))))))) ?_ | refine .s (.h (.s (.s (.s (.s (.s (.s (.s (.s .z))))))))) ?_ | refine .s (.x .z) ?_ | refine .s (.x (.s .z)) ?_ | refine .s (.x (.s (.s .z))) ?_ | refine .s (.x (.s (.s (.s .z)))) ?_ | refine .s (.x (.s (.s (.s (.s .z))))) ?_ | refine .s (.x (.s (.s (.s (.s (.s .z)))))) ?_ | refine .s (.x (.s (.s (.s (.s (.s (.s .z))))))) ?_)) ?_
  refine r_lenS sl_47 rfl rfl rfl ?_
  refine r_move rfl rfl rfl ?_
  refine R_nil ?_
  refine K_tn ?_
  refine K_block ?_
  refine K_loop (fun (k : Nat) => k ≤ m) (fun k => [(1, .float .f32 c), (2, .float .f32 g), (4, .pointer (some ⟨b4, 0, none⟩)), (7, .pointer (some ⟨b7, 0, none⟩)), (8, .pointer (some ⟨b8, 0, none⟩)), (11, .slice (some ⟨b7, 0 + 1, none⟩) m 16), (12, .int .i64 (m : Int)), (13, .int .i64 (k : Int))]) (fun k => [(b8, .cells (.int .i8 0 :: fl .f32 (List.replicate 16 0)).toArray 54 (0, 0)), (b7, .cells (.int .i8 (m : Int) :: fl .f32 (mapTo (arrF n rs c g) k fs)).toArray 54 (0, 0)), (b4, .cells (.int .i8 (n : Int) :: fl .f32 rs).toArray 28 (0, 0))]) (fun k => m - k) 0 (by omega) (by repeat (first | exact trivial | refine ⟨rfl, ?_⟩)) (by repeat (first | exact .z | apply Rems.s Rem.z | apply Rems.s (Rem.s Rem.z) | apply Rems.s (Rem.s (Rem.s Rem.z)) | apply Rems.s (Rem.s (Rem.s (Rem.s Rem.z))) | apply Rems.s (Rem.s (Rem.s (Rem.s (Rem.s Rem.z)))) | apply Rems.s (Rem.s (Rem.s (Rem.s (Rem.s (Rem.s Rem.z))))) | apply Rems.s (Rem.s (Rem.s (Rem.s (Rem.s (Rem.s (Rem.s Rem.z)))))) | apply Rems.s (Rem.s (Rem.s (Rem.s (Rem.s (Rem.s (Rem.s (Rem.s Rem.z))))))) | apply Rems.s (Rem.s (Rem.s (Rem.s (Rem.s (Rem.s (Rem.s (Rem.s (Rem.s Rem.z)))))))) | apply Rems.s (Rem.s (Rem.s (Rem.s (Rem.s (Rem.s (Rem.s (Rem.s (Rem.s (Rem.s Rem.z))))))))))) (fun k hp => ?_)
  refine K_seq ?_
  refine R_region ?_
  refine s_lss rfl rfl rfl rfl (fun h14 => ?_) (fun h14 => ?_)
  · first
    | (exfalso; omega)
    |
      refine R_nil ?_
      refine K_tn ?_
      refine K_seq ?_
      refine K_cond_t rfl ?_
      refine K_skip ?_
      refine K_tn ?_
      refine K_seq ?_
      refine K_block ?_
      refine K_seq ?_
      refine R_region ?_
      refine r_move rfl rfl rfl ?_
      refine r_indexS sl_47 sz_23 rfl rfl rfl rfl (by omega) ?_
      refine r_load ag_23 rfl rfl rfl (by first | exact .h .z | exact .h (.s .z) | exact .h (.s (.s .z)) | exact .h (.s (.s (.s .z))) | exact .h (.s (.s (.s (.s .z)))) | exact .h (.s (.s (.s (.s (.s .z))))) | exact .h (.s (.s (.s (.s (.s (.s .z)))))) | exact .h (.s (.s (.s (.s (.s (.s (.s .z))))))) | exact .h (.s (.s (.s (.s (.s (.s (.s (.s .z)))))))) | exact .x .z | exact .x (.s .z) | exact .x (.s (.s .z)) | exact .x (.s (.s (.s .z))) | exact .x (.s (.s (.s (.s .z)))) | exact .x (.s (.s (.s (.s (.s .z))))) | exact .x (.s (.s (.s (.s (.s (.s .z))))))) (by first | rfl | exact gM (by omega) | exact gC (by omega) | exact takeC (by omega) | exact takeC0 (by omega) | exact takeC0 (by rw [mapTo_len]; omega)) ?_
      refine r_assign rfl rfl rfl ?_
      refine r_assign rfl rfl rfl ?_
      refine R_nil ?_
      refine K_tn ?_
      refine R_region ?_
      have hpp := vAt_part hvm (i := k) (by omega)
      refine r_move rfl rfl rfl ?_
      refine r_loadA ag_28 sz_28 rfl rfl rfl (by first | exact .h .z | exact .h (.s .z) | exact .h (.s (.s .z)) | exact .h (.s (.s (.s .z))) | exact .h (.s (.s (.s (.s .z)))) | exact .h (.s (.s (.s (.s (.s .z))))) | exact .h (.s (.s (.s (.s (.s (.s .z)))))) | exact .h (.s (.s (.s (.s (.s (.s (.s .z))))))) | exact .h (.s (.s (.s (.s (.s (.s (.s (.s .z)))))))) | exact .x .z | exact .x (.s .z) | exact .x (.s (.s .z)) | exact .x (.s (.s (.s .z))) | exact .x (.s (.s (.s (.s .z)))) | exact .x (.s (.s (.s (.s (.s .z))))) | exact .x (.s (.s (.s (.s (.s (.s .z))))))) (by first | rfl | exact gM (by omega) | exact gC (by omega) | exact takeC (by omega) | exact takeC0 (by omega) | exact takeC0 (by rw [mapTo_len]; omega)) ?_
      refine r_move rfl rfl rfl ?_
      refine r_move rfl rfl rfl ?_
      refine r_move rfl rfl rfl ?_
      refine r_callV cb_74 rfl rfl rfl rfl rfl (atEnd _ _ (by assumption) (by omega) c g (fs.getD k 0) 0 hv hc hg hpp (Nat.zero_le _)) (by repeat (first | exact .z | refine .s (.h .z) ?_ | refine .s (.h (.s .z)) ?_ | refine .s (.h (.s (.s .z))) ?_ | refine .s (.h (.s (.s (.s .z)))) ?_ | refine .s (.h (.s (.s (.s (.s .z))))) ?_ | refine .s (.h (.s (.s (.s (.s (.s .z)))))) ?_ | refine .s (.h (.s (.s (.s (.s (.s (.s .z))))))) ?_ | refine .s (.h (.s (.s (.s (.s (.s (.s (.s .z)))))))) ?_ | refine .s (.h (.s (.s (.s (.s (.s (.s (.s (.s .z))))))))) ?_ | refine .s (.x .z) ?_ | refine .s (.x (.s .z)) ?_ | refine .s (.x (.s (.s .z))) ?_ | refine .s (.x (.s (.s (.s .z)))) ?_ | refine .s (.x (.s (.s (.s (.s .z))))) ?_ | refine .s (.x (.s (.s (.s (.s (.s .z)))))) ?_ | refine .s (.x (.s (.s (.s (.s (.s (.s .z))))))) ?_)) ?_
      refine r_fieldAddr fd_54_1 rfl rfl rfl ?_
      refine r_indexA ar_24 sz_23 rfl rfl rfl rfl (by omega) ?_
      refine r_store sz_23 rfl rfl rfl rfl (by first | exact .z | exact (.s .z) | exact (.s (.s .z)) | exact (.s (.s (.s .z))) | exact (.s (.s (.s (.s .z)))) | exact (.s (.s (.s (.s (.s .z))))) | exact (.s (.s (.s (.s (.s (.s .z)))))) | exact (.s (.s (.s (.s (.s (.s (.s .z))))))) | exact (.s (.s (.s (.s (.s (.s (.s (.s .z)))))))) | exact (.s (.s (.s (.s (.s (.s (.s (.s (.s .z)))))))))) (by first | rfl | exact bltC (by rw [mapTo_len]; omega) | (simp [fl_length, mapTo_len, hf]; done)) ?_
      refine R_nil ?_
      refine K_bn ?_
      refine K_tn ?_
      refine R_region ?_
      first | refine r_addN rfl rfl rfl rfl (i64K (by omega) (by omega)) ?_ | refine r_add rfl rfl rfl rfl (i64K (by omega) (by omega)) ?_
      refine r_move rfl rfl rfl ?_
      refine R_nil ?_
      refine K_tn ?_
      rw [setArr (by omega)]
      exact K_again (k + 1) (by omega) (by omega) (by repeat (first | exact trivial | refine ⟨rfl, ?_⟩)) (by repeat (first | exact .z | apply Rems.s Rem.z | apply Rems.s (Rem.s Rem.z) | apply Rems.s (Rem.s (Rem.s Rem.z)) | apply Rems.s (Rem.s (Rem.s (Rem.s Rem.z))) | apply Rems.s (Rem.s (Rem.s (Rem.s (Rem.s Rem.z)))) | apply Rems.s (Rem.s (Rem.s (Rem.s (Rem.s (Rem.s Rem.z))))) | apply Rems.s (Rem.s (Rem.s (Rem.s (Rem.s (Rem.s (Rem.s Rem.z)))))) | apply Rems.s (Rem.s (Rem.s (Rem.s (Rem.s (Rem.s (Rem.s (Rem.s Rem.z))))))) | apply Rems.s (Rem.s (Rem.s (Rem.s (Rem.s (Rem.s (Rem.s (Rem.s (Rem.s Rem.z)))))))) | apply Rems.s (Rem.s (Rem.s (Rem.s (Rem.s (Rem.s (Rem.s (Rem.s (Rem.s (Rem.s Rem.z)))))))))))
  · first
    | (exfalso; omega)
    |
      refine R_nil ?_
      refine K_tn ?_
      refine K_seq ?_
      refine K_cond_f rfl ?_
      refine K_exit ?_
      refine K_te ?_
      refine K_te ?_
      refine K_be ?_
      refine K_tn ?_
      refine K_seq ?_
      refine R_region ?_
      have hkn : k = m := by omega
      subst hkn
      refine r_loadA ag_54 sz_54 rfl rfl rfl (by first | exact .h .z | exact .h (.s .z) | exact .h (.s (.s .z)) | exact .h (.s (.s (.s .z))) | exact .h (.s (.s (.s (.s .z)))) | exact .h (.s (.s (.s (.s (.s .z))))) | exact .h (.s (.s (.s (.s (.s (.s .z)))))) | exact .h (.s (.s (.s (.s (.s (.s (.s .z))))))) | exact .h (.s (.s (.s (.s (.s (.s (.s (.s .z)))))))) | exact .x .z | exact .x (.s .z) | exact .x (.s (.s .z)) | exact .x (.s (.s (.s .z))) | exact .x (.s (.s (.s (.s .z)))) | exact .x (.s (.s (.s (.s (.s .z))))) | exact .x (.s (.s (.s (.s (.s (.s .z))))))) (by first | rfl | exact gM (by omega) | exact gC (by omega) | exact takeC (by omega) | exact takeC0 (by omega) | exact takeC0 (by rw [mapTo_len]; omega)) ?_
      refine r_storeA sz_54 rfl rfl rfl (by first | rfl | exact bltC (by rw [mapTo_len]; omega) | (simp [fl_length, mapTo_len, hf]; done)) (by first | rfl | exact one_C _ _ _ _) (by first | exact .z | exact (.s .z) | exact (.s (.s .z)) | exact (.s (.s (.s .z))) | exact (.s (.s (.s (.s .z)))) | exact (.s (.s (.s (.s (.s .z))))) | exact (.s (.s (.s (.s (.s (.s .z)))))) | exact (.s (.s (.s (.s (.s (.s (.s .z))))))) | exact (.s (.s (.s (.s (.s (.s (.s (.s .z)))))))) | exact (.s (.s (.s (.s (.s (.s (.s (.s (.s .z)))))))))) (by first | rfl | exact bltC (by rw [mapTo_len]; omega) | (simp [fl_length, mapTo_len, hf]; done)) ?_
      refine R_nil ?_
      refine K_tn ?_
      refine K_ret ?_
      rw [putAllC (by simp [fl_length, mapTo_len, hf])]
      refine K_done (H' := []) rfl rfl (.s (.cellA ag_54 sz_54 rfl (by first | exact .h .z | exact .h (.s .z) | exact .h (.s (.s .z)) | exact .h (.s (.s (.s .z))) | exact .h (.s (.s (.s (.s .z)))) | exact .h (.s (.s (.s (.s (.s .z))))) | exact .h (.s (.s (.s (.s (.s (.s .z)))))) | exact .h (.s (.s (.s (.s (.s (.s (.s .z))))))) | exact .h (.s (.s (.s (.s (.s (.s (.s (.s .z)))))))) | exact .x .z | exact .x (.s .z) | exact .x (.s (.s .z)) | exact .x (.s (.s (.s .z))) | exact .x (.s (.s (.s (.s .z)))) | exact .x (.s (.s (.s (.s (.s .z))))) | exact .x (.s (.s (.s (.s (.s (.s .z))))))) (by first | rfl | exact gM (by omega) | exact gC (by omega) | exact takeC (by omega) | exact takeC0 (by omega) | exact takeC0 (by rw [mapTo_len]; omega))) .z) (by repeat (first | exact .z | apply Rems.s Rem.z | apply Rems.s (Rem.s Rem.z) | apply Rems.s (Rem.s (Rem.s Rem.z)) | apply Rems.s (Rem.s (Rem.s (Rem.s Rem.z))) | apply Rems.s (Rem.s (Rem.s (Rem.s (Rem.s Rem.z)))) | apply Rems.s (Rem.s (Rem.s (Rem.s (Rem.s (Rem.s Rem.z))))) | apply Rems.s (Rem.s (Rem.s (Rem.s (Rem.s (Rem.s (Rem.s Rem.z)))))) | apply Rems.s (Rem.s (Rem.s (Rem.s (Rem.s (Rem.s (Rem.s (Rem.s Rem.z))))))) | apply Rems.s (Rem.s (Rem.s (Rem.s (Rem.s (Rem.s (Rem.s (Rem.s (Rem.s Rem.z)))))))) | apply Rems.s (Rem.s (Rem.s (Rem.s (Rem.s (Rem.s (Rem.s (Rem.s (Rem.s (Rem.s Rem.z))))))))))) ?_
      refine ⟨?_, rfl⟩
      rfl

set_option maxRecDepth 20000 in
theorem l04Sorted (b : Nat) (n : Nat) (rs : List Nat) (hl : rs.length = 16) (hn : n ≤ 16) (u : TypeId) (fr : Nat × Nat) (b2 : Nat) (m : Nat) (fs : List Nat) (hf : fs.length = 16) (hm : m ≤ 16) (u3 : TypeId) (fr3 : Nat × Nat) (c g lo hi : Nat) (hv : vCrate n rs = true) (hc : isPart c = true) (hg : isPart g = true) (hvm : vCrate m fs = true) : Go.Sl.Spec Try.prog 85 [.pointer (some ⟨b, 0, none⟩), .float .f32 c, .float .f32 g, .pointer (some ⟨b2, 0, none⟩), .float .f32 lo, .float .f32 hi] [(b, .cells (.int .i8 (n : Int) :: fl .f32 rs).toArray u fr), (b2, .cells (.int .i8 (m : Int) :: fl .f32 fs).toArray u3 fr3)] [] (RowII (filterI m (isEarly (arrF n rs c g) fs hi)) (filterI m (isLate (arrF n rs c g) fs lo))) := by
  refine spec_of Try.func85 rfl Try.ntmps85 rfl (fun w0 => ?_)
  refine K_seq ?_
  refine R_region ?_
  refine r_assign rfl rfl rfl ?_
  refine r_assign rfl rfl rfl ?_
  refine R_nil ?_
  refine K_tn ?_
  refine K_seq ?_
  refine R_region ?_
  refine r_buildSlice sl_60 sz_2 zr_2 rfl rfl rfl rfl rfl (by first | rfl) (fun b18 => ?_)
  refine r_assign rfl rfl rfl ?_
  refine R_nil ?_
  refine K_tn ?_
  refine K_seq ?_
  refine R_region ?_
  refine r_buildSlice sl_60 sz_2 zr_2 rfl rfl rfl rfl rfl (by first | rfl) (fun b19 => ?_)
  refine r_assign rfl rfl rfl ?_
  refine R_nil ?_
  refine K_tn ?_
  refine K_seq ?_
  refine K_seq ?_
  refine R_region ?_
  refine r_assign rfl rfl rfl ?_
  refine R_nil ?_
  refine K_tn ?_
  refine K_block ?_
  refine K_loop3 (fun (k : Nat) (p q : RowP) => k ≤ m ∧ (filterI k (isEarly (arrF n rs c g) fs hi)).length + p.junk.length = p.cap ∧ (filterI k (isLate (arrF n rs c g) fs lo)).length + q.junk.length = q.cap) (fun k p q => [(0, .pointer (some ⟨b, 0, none⟩)), (1, .float .f32 c), (2, .float .f32 g), (3, .pointer (some ⟨b2, 0, none⟩)), (4, .float .f32 lo), (5, .float .f32 hi), (14, .slice (some ⟨p.b, 0, none⟩) (filterI k (isEarly (arrF n rs c g) fs hi)).length p.cap), (15, .slice (some ⟨q.b, 0, none⟩) (filterI k (isLate (arrF n rs c g) fs lo)).length q.cap), (16, .int .i64 (k : Int))]) (fun k p q => [(p.b, .cells (il (filterI k (isEarly (arrF n rs c g) fs hi)) ++ p.junk).toArray p.u (0, 0)), (q.b, .cells (il (filterI k (isLate (arrF n rs c g) fs lo)) ++ q.junk).toArray q.u (0, 0))]) (fun k _ _ => m - k) 0 ⟨b18, 0, [], 2⟩ ⟨b19, 0, [], 2⟩ (by exact ⟨Nat.zero_le _, rfl, rfl⟩) (by repeat (first | exact trivial | refine ⟨rfl, ?_⟩)) (by repeat (first | exact .z | apply Rems.s Rem.z | apply Rems.s (Rem.s Rem.z) | apply Rems.s (Rem.s (Rem.s Rem.z)) | apply Rems.s (Rem.s (Rem.s (Rem.s Rem.z))) | apply Rems.s (Rem.s (Rem.s (Rem.s (Rem.s Rem.z)))) | apply Rems.s (Rem.s (Rem.s (Rem.s (Rem.s (Rem.s Rem.z))))) | apply Rems.s (Rem.s (Rem.s (Rem.s (Rem.s (Rem.s (Rem.s Rem.z)))))) | apply Rems.s (Rem.s (Rem.s (Rem.s (Rem.s (Rem.s (Rem.s (Rem.s Rem.z))))))) | apply Rems.s (Rem.s (Rem.s (Rem.s (Rem.s (Rem.s (Rem.s (Rem.s (Rem.s Rem.z)))))))) | apply Rems.s (Rem.s (Rem.s (Rem.s (Rem.s (Rem.s (Rem.s (Rem.s (Rem.s (Rem.s Rem.z))))))))))) (fun k p q hq0 => ?_)
  obtain ⟨hk, hq1, hq2⟩ := hq0
  refine K_seq ?_
  refine K_seq ?_
  refine R_region ?_
  refine r_move rfl rfl rfl ?_
  refine r_move rfl rfl rfl ?_
  refine r_nilCheck rfl rfl rfl ?_
  refine r_fieldAddr fd_54_0 rfl rfl rfl ?_
  refine r_load ag_22 rfl rfl rfl (by first | exact .h .z | exact .h (.s .z) | exact .h (.s (.s .z)) | exact .h (.s (.s (.s .z))) | exact .h (.s (.s (.s (.s .z)))) | exact .h (.s (.s (.s (.s (.s .z))))) | exact .h (.s (.s (.s (.s (.s (.s .z)))))) | exact .h (.s (.s (.s (.s (.s (.s (.s .z))))))) | exact .h (.s (.s (.s (.s (.s (.s (.s (.s .z)))))))) | exact .x .z | exact .x (.s .z) | exact .x (.s (.s .z)) | exact .x (.s (.s (.s .z))) | exact .x (.s (.s (.s (.s .z)))) | exact .x (.s (.s (.s (.s (.s .z))))) | exact .x (.s (.s (.s (.s (.s (.s .z))))))) (by first | rfl | exact gC (by omega) | exact takeC (by omega) | exact takeC0 (by omega)) ?_
  refine r_convI ⟨_, un_22⟩ un_3 rfl rfl rfl (i64K (by omega) (by omega)) ?_
  refine s_lss rfl rfl rfl rfl (fun h26 => ?_) (fun h26 => ?_)
  · first
    | (exfalso; omega)
    |
      refine R_nil ?_
      refine K_tn ?_
      refine K_cond_t rfl ?_
      refine K_skip ?_
      refine K_tn ?_
      refine K_seq ?_
      refine K_block ?_
      refine K_seq ?_
      refine R_region ?_
      have hle1 := filterI_le k (isEarly (arrF n rs c g) fs hi)
      have hle2 := filterI_le k (isLate (arrF n rs c g) fs lo)
      have hpp := vAt_part hvm (i := k) (by omega)
      refine r_move rfl rfl rfl ?_
      refine r_move rfl rfl rfl ?_
      refine r_move rfl rfl rfl ?_
      refine r_move rfl rfl rfl ?_
      refine r_move rfl rfl rfl ?_
      refine r_nilCheck rfl rfl rfl ?_
      refine r_fieldAddr fd_54_1 rfl rfl rfl ?_
      refine r_indexA ar_24 sz_23 rfl rfl rfl rfl (by omega) ?_
      refine r_load ag_23 rfl rfl rfl (by first | exact .h .z | exact .h (.s .z) | exact .h (.s (.s .z)) | exact .h (.s (.s (.s .z))) | exact .h (.s (.s (.s (.s .z)))) | exact .h (.s (.s (.s (.s (.s .z))))) | exact .h (.s (.s (.s (.s (.s (.s .z)))))) | exact .h (.s (.s (.s (.s (.s (.s (.s .z))))))) | exact .h (.s (.s (.s (.s (.s (.s (.s (.s .z)))))))) | exact .x .z | exact .x (.s .z) | exact .x (.s (.s .z)) | exact .x (.s (.s (.s .z))) | exact .x (.s (.s (.s (.s .z)))) | exact .x (.s (.s (.s (.s (.s .z))))) | exact .x (.s (.s (.s (.s (.s (.s .z))))))) (by first | rfl | exact gC (by omega) | exact takeC (by omega) | exact takeC0 (by omega)) ?_
      refine r_callV cb_73 rfl rfl rfl rfl rfl (l04Ripe _ n rs hl (by omega) _ _ c g (fs.getD k 0) 0 hv hc hg hpp (Nat.zero_le _)) (by repeat (first | exact .z | refine .s (.h .z) ?_ | refine .s (.h (.s .z)) ?_ | refine .s (.h (.s (.s .z))) ?_ | refine .s (.h (.s (.s (.s .z)))) ?_ | refine .s (.h (.s (.s (.s (.s .z))))) ?_ | refine .s (.h (.s (.s (.s (.s (.s .z)))))) ?_ | refine .s (.h (.s (.s (.s (.s (.s (.s .z))))))) ?_ | refine .s (.h (.s (.s (.s (.s (.s (.s (.s .z)))))))) ?_ | refine .s (.h (.s (.s (.s (.s (.s (.s (.s (.s .z))))))))) ?_ | refine .s (.x .z) ?_ | refine .s (.x (.s .z)) ?_ | refine .s (.x (.s (.s .z))) ?_ | refine .s (.x (.s (.s (.s .z)))) ?_ | refine .s (.x (.s (.s (.s (.s .z))))) ?_ | refine .s (.x (.s (.s (.s (.s (.s .z)))))) ?_ | refine .s (.x (.s (.s (.s (.s (.s (.s .z))))))) ?_)) ?_
      refine r_assign rfl rfl rfl ?_
      refine R_nil ?_
      refine K_tn ?_
      refine K_seq ?_
      refine K_seq ?_
      refine R_region ?_
      refine r_move rfl rfl rfl ?_
      refine r_move rfl rfl rfl ?_
      refine s_fcmp rfl rfl rfl rfl (fun _ _ => run_fgt) (fun h41 => ?_) (fun h41 => ?_)
      · first
        | (exfalso; omega)
        |
          refine R_nil ?_
          refine K_tn ?_
          refine K_cond_t rfl ?_
          refine R_region ?_
          refine r_move rfl rfl rfl ?_
          refine r_move rfl rfl rfl ?_
          refine r_buildSlice sl_60 sz_2 zr_2 rfl rfl rfl rfl rfl (by first | rfl) (fun b44 => ?_)
          refine r_appendI sl_60 sl_60 sz_2 zr_2 rfl by_2 rfl rfl rfl rfl rfl (by first | exact .h .z | exact .h (.s .z) | exact .h (.s (.s .z)) | exact .h (.s (.s (.s .z))) | exact .h (.s (.s (.s (.s .z)))) | exact .h (.s (.s (.s (.s (.s .z))))) | exact .h (.s (.s (.s (.s (.s (.s .z)))))) | exact .h (.s (.s (.s (.s (.s (.s (.s .z))))))) | exact .h (.s (.s (.s (.s (.s (.s (.s (.s .z)))))))) | exact .x .z | exact .x (.s .z) | exact .x (.s (.s .z)) | exact .x (.s (.s (.s .z))) | exact .x (.s (.s (.s (.s .z)))) | exact .x (.s (.s (.s (.s (.s .z))))) | exact .x (.s (.s (.s (.s (.s (.s .z))))))) (by first | exact .z | exact (.s .z) | exact (.s (.s .z)) | exact (.s (.s (.s .z))) | exact (.s (.s (.s (.s .z)))) | exact (.s (.s (.s (.s (.s .z))))) | exact (.s (.s (.s (.s (.s (.s .z)))))) | exact (.s (.s (.s (.s (.s (.s (.s .z))))))) | exact (.s (.s (.s (.s (.s (.s (.s (.s .z)))))))) | exact (.s (.s (.s (.s (.s (.s (.s (.s (.s .z)))))))))) (by omega) (by omega) (by omega) (fun b45 cap45 junk45 u45 hj45 => ?_)
          refine r_assign rfl rfl rfl ?_
          refine R_nil ?_
          refine K_tn ?_
          refine K_seq ?_
          refine R_region ?_
          refine r_move rfl rfl rfl ?_
          refine r_move rfl rfl rfl ?_
          refine s_fcmp rfl rfl rfl rfl (fun _ _ => run_flt) (fun h48 => ?_) (fun h48 => ?_)
          · first
            | (exfalso; omega)
            |
              refine R_nil ?_
              refine K_tn ?_
              refine K_cond_t rfl ?_
              refine R_region ?_
              refine r_move rfl rfl rfl ?_
              refine r_move rfl rfl rfl ?_
              refine r_buildSlice sl_60 sz_2 zr_2 rfl rfl rfl rfl rfl (by first | rfl) (fun b51 => ?_)
              refine r_appendI sl_60 sl_60 sz_2 zr_2 rfl by_2 rfl rfl rfl rfl rfl (by first | exact .h .z | exact .h (.s .z) | exact .h (.s (.s .z)) | exact .h (.s (.s (.s .z))) | exact .h (.s (.s (.s (.s .z)))) | exact .h (.s (.s (.s (.s (.s .z))))) | exact .h (.s (.s (.s (.s (.s (.s .z)))))) | exact .h (.s (.s (.s (.s (.s (.s (.s .z))))))) | exact .h (.s (.s (.s (.s (.s (.s (.s (.s .z)))))))) | exact .x .z | exact .x (.s .z) | exact .x (.s (.s .z)) | exact .x (.s (.s (.s .z))) | exact .x (.s (.s (.s (.s .z)))) | exact .x (.s (.s (.s (.s (.s .z))))) | exact .x (.s (.s (.s (.s (.s (.s .z))))))) (by first | exact .z | exact (.s .z) | exact (.s (.s .z)) | exact (.s (.s (.s .z))) | exact (.s (.s (.s (.s .z)))) | exact (.s (.s (.s (.s (.s .z))))) | exact (.s (.s (.s (.s (.s (.s .z)))))) | exact (.s (.s (.s (.s (.s (.s (.s .z))))))) | exact (.s (.s (.s (.s (.s (.s (.s (.s .z)))))))) | exact (.s (.s (.s (.s (.s (.s (.s (.s (.s .z)))))))))) (by omega) (by omega) (by omega) (fun b52 cap52 junk52 u52 hj52 => ?_)
              refine r_assign rfl rfl rfl ?_
              refine R_nil ?_
              refine K_bn ?_
              refine K_tn ?_
              refine R_region ?_
              refine r_move rfl rfl rfl ?_
              first | refine r_addN rfl rfl rfl rfl (i64K (by omega) (by omega)) ?_ | refine r_add rfl rfl rfl rfl (i64K (by omega) (by omega)) ?_
              refine r_assign rfl rfl rfl ?_
              refine R_nil ?_
              refine K_tn ?_
              first | (have hE := filterI_t (P := (isEarly (arrF n rs c g) fs hi)) (k := k) h41; have hEl := filterI_tl (P := (isEarly (arrF n rs c g) fs hi)) (k := k) h41; rw [hE, hEl]) | (have hE := filterI_f (P := (isEarly (arrF n rs c g) fs hi)) (k := k) h41; have hEl := congrArg List.length hE; rw [hE])
              first | (have hL := filterI_t (P := (isLate (arrF n rs c g) fs lo)) (k := k) h48; have hLl := filterI_tl (P := (isLate (arrF n rs c g) fs lo)) (k := k) h48; rw [hL, hLl]) | (have hL := filterI_f (P := (isLate (arrF n rs c g) fs lo)) (k := k) h48; have hLl := congrArg List.length hL; rw [hL])
              first | (exact K_again3 (pre := (fun (k : Nat) (p q : RowP) => k ≤ m ∧ (filterI k (isEarly (arrF n rs c g) fs hi)).length + p.junk.length = p.cap ∧ (filterI k (isLate (arrF n rs c g) fs lo)).length + q.junk.length = q.cap)) (Ei := (fun k p q => [(0, .pointer (some ⟨b, 0, none⟩)), (1, .float .f32 c), (2, .float .f32 g), (3, .pointer (some ⟨b2, 0, none⟩)), (4, .float .f32 lo), (5, .float .f32 hi), (14, .slice (some ⟨p.b, 0, none⟩) (filterI k (isEarly (arrF n rs c g) fs hi)).length p.cap), (15, .slice (some ⟨q.b, 0, none⟩) (filterI k (isLate (arrF n rs c g) fs lo)).length q.cap), (16, .int .i64 (k : Int))])) (Hi := (fun k p q => [(p.b, .cells (il (filterI k (isEarly (arrF n rs c g) fs hi)) ++ p.junk).toArray p.u (0, 0)), (q.b, .cells (il (filterI k (isLate (arrF n rs c g) fs lo)) ++ q.junk).toArray q.u (0, 0))])) (μ := (fun k _ _ => m - k)) (k + 1) (RowP.mk b45 cap45 junk45 u45) (RowP.mk b52 cap52 junk52 u52) (by refine ⟨?_, ?_, ?_⟩ <;> (try simp only) <;> omega) (by omega) (by repeat (first | exact trivial | refine ⟨rfl, ?_⟩)) (by repeat (first | exact .z | apply Rems.s Rem.z | apply Rems.s (Rem.s Rem.z) | apply Rems.s (Rem.s (Rem.s Rem.z)) | apply Rems.s (Rem.s (Rem.s (Rem.s Rem.z))) | apply Rems.s (Rem.s (Rem.s (Rem.s (Rem.s Rem.z)))) | apply Rems.s (Rem.s (Rem.s (Rem.s (Rem.s (Rem.s Rem.z))))) | apply Rems.s (Rem.s (Rem.s (Rem.s (Rem.s (Rem.s (Rem.s Rem.z)))))) | apply Rems.s (Rem.s (Rem.s (Rem.s (Rem.s (Rem.s (Rem.s (Rem.s Rem.z))))))) | apply Rems.s (Rem.s (Rem.s (Rem.s (Rem.s (Rem.s (Rem.s (Rem.s (Rem.s Rem.z)))))))) | apply Rems.s (Rem.s (Rem.s (Rem.s (Rem.s (Rem.s (Rem.s (Rem.s (Rem.s (Rem.s Rem.z)))))))))))) | (exact K_again3 (pre := (fun (k : Nat) (p q : RowP) => k ≤ m ∧ (filterI k (isEarly (arrF n rs c g) fs hi)).length + p.junk.length = p.cap ∧ (filterI k (isLate (arrF n rs c g) fs lo)).length + q.junk.length = q.cap)) (Ei := (fun k p q => [(0, .pointer (some ⟨b, 0, none⟩)), (1, .float .f32 c), (2, .float .f32 g), (3, .pointer (some ⟨b2, 0, none⟩)), (4, .float .f32 lo), (5, .float .f32 hi), (14, .slice (some ⟨p.b, 0, none⟩) (filterI k (isEarly (arrF n rs c g) fs hi)).length p.cap), (15, .slice (some ⟨q.b, 0, none⟩) (filterI k (isLate (arrF n rs c g) fs lo)).length q.cap), (16, .int .i64 (k : Int))])) (Hi := (fun k p q => [(p.b, .cells (il (filterI k (isEarly (arrF n rs c g) fs hi)) ++ p.junk).toArray p.u (0, 0)), (q.b, .cells (il (filterI k (isLate (arrF n rs c g) fs lo)) ++ q.junk).toArray q.u (0, 0))])) (μ := (fun k _ _ => m - k)) (k + 1) (RowP.mk b45 cap45 junk45 u45) q (by refine ⟨?_, ?_, ?_⟩ <;> (try simp only) <;> omega) (by omega) (by repeat (first | exact trivial | refine ⟨rfl, ?_⟩)) (by repeat (first | exact .z | apply Rems.s Rem.z | apply Rems.s (Rem.s Rem.z) | apply Rems.s (Rem.s (Rem.s Rem.z)) | apply Rems.s (Rem.s (Rem.s (Rem.s Rem.z))) | apply Rems.s (Rem.s (Rem.s (Rem.s (Rem.s Rem.z)))) | apply Rems.s (Rem.s (Rem.s (Rem.s (Rem.s (Rem.s Rem.z))))) | apply Rems.s (Rem.s (Rem.s (Rem.s (Rem.s (Rem.s (Rem.s Rem.z)))))) | apply Rems.s (Rem.s (Rem.s (Rem.s (Rem.s (Rem.s (Rem.s (Rem.s Rem.z))))))) | apply Rems.s (Rem.s (Rem.s (Rem.s (Rem.s (Rem.s (Rem.s (Rem.s (Rem.s Rem.z)))))))) | apply Rems.s (Rem.s (Rem.s (Rem.s (Rem.s (Rem.s (Rem.s (Rem.s (Rem.s (Rem.s Rem.z)))))))))))) | (exact K_again3 (pre := (fun (k : Nat) (p q : RowP) => k ≤ m ∧ (filterI k (isEarly (arrF n rs c g) fs hi)).length + p.junk.length = p.cap ∧ (filterI k (isLate (arrF n rs c g) fs lo)).length + q.junk.length = q.cap)) (Ei := (fun k p q => [(0, .pointer (some ⟨b, 0, none⟩)), (1, .float .f32 c), (2, .float .f32 g), (3, .pointer (some ⟨b2, 0, none⟩)), (4, .float .f32 lo), (5, .float .f32 hi), (14, .slice (some ⟨p.b, 0, none⟩) (filterI k (isEarly (arrF n rs c g) fs hi)).length p.cap), (15, .slice (some ⟨q.b, 0, none⟩) (filterI k (isLate (arrF n rs c g) fs lo)).length q.cap), (16, .int .i64 (k : Int))])) (Hi := (fun k p q => [(p.b, .cells (il (filterI k (isEarly (arrF n rs c g) fs hi)) ++ p.junk).toArray p.u (0, 0)), (q.b, .cells (il (filterI k (isLate (arrF n rs c g) fs lo)) ++ q.junk).toArray q.u (0, 0))])) (μ := (fun k _ _ => m - k)) (k + 1) p (RowP.mk b52 cap52 junk52 u52) (by refine ⟨?_, ?_, ?_⟩ <;> (try simp only) <;> omega) (by omega) (by repeat (first | exact trivial | refine ⟨rfl, ?_⟩)) (by repeat (first | exact .z | apply Rems.s Rem.z | apply Rems.s (Rem.s Rem.z) | apply Rems.s (Rem.s (Rem.s Rem.z)) | apply Rems.s (Rem.s (Rem.s (Rem.s Rem.z))) | apply Rems.s (Rem.s (Rem.s (Rem.s (Rem.s Rem.z)))) | apply Rems.s (Rem.s (Rem.s (Rem.s (Rem.s (Rem.s Rem.z))))) | apply Rems.s (Rem.s (Rem.s (Rem.s (Rem.s (Rem.s (Rem.s Rem.z)))))) | apply Rems.s (Rem.s (Rem.s (Rem.s (Rem.s (Rem.s (Rem.s (Rem.s Rem.z))))))) | apply Rems.s (Rem.s (Rem.s (Rem.s (Rem.s (Rem.s (Rem.s (Rem.s (Rem.s Rem.z)))))))) | apply Rems.s (Rem.s (Rem.s (Rem.s (Rem.s (Rem.s (Rem.s (Rem.s (Rem.s (Rem.s Rem.z)))))))))))) | (exact K_again3 (pre := (fun (k : Nat) (p q : RowP) => k ≤ m ∧ (filterI k (isEarly (arrF n rs c g) fs hi)).length + p.junk.length = p.cap ∧ (filterI k (isLate (arrF n rs c g) fs lo)).length + q.junk.length = q.cap)) (Ei := (fun k p q => [(0, .pointer (some ⟨b, 0, none⟩)), (1, .float .f32 c), (2, .float .f32 g), (3, .pointer (some ⟨b2, 0, none⟩)), (4, .float .f32 lo), (5, .float .f32 hi), (14, .slice (some ⟨p.b, 0, none⟩) (filterI k (isEarly (arrF n rs c g) fs hi)).length p.cap), (15, .slice (some ⟨q.b, 0, none⟩) (filterI k (isLate (arrF n rs c g) fs lo)).length q.cap), (16, .int .i64 (k : Int))])) (Hi := (fun k p q => [(p.b, .cells (il (filterI k (isEarly (arrF n rs c g) fs hi)) ++ p.junk).toArray p.u (0, 0)), (q.b, .cells (il (filterI k (isLate (arrF n rs c g) fs lo)) ++ q.junk).toArray q.u (0, 0))])) (μ := (fun k _ _ => m - k)) (k + 1) p q (by refine ⟨?_, ?_, ?_⟩ <;> (try simp only) <;> omega) (by omega) (by repeat (first | exact trivial | refine ⟨rfl, ?_⟩)) (by repeat (first | exact .z | apply Rems.s Rem.z | apply Rems.s (Rem.s Rem.z) | apply Rems.s (Rem.s (Rem.s Rem.z)) | apply Rems.s (Rem.s (Rem.s (Rem.s Rem.z))) | apply Rems.s (Rem.s (Rem.s (Rem.s (Rem.s Rem.z)))) | apply Rems.s (Rem.s (Rem.s (Rem.s (Rem.s (Rem.s Rem.z))))) | apply Rems.s (Rem.s (Rem.s (Rem.s (Rem.s (Rem.s (Rem.s Rem.z)))))) | apply Rems.s (Rem.s (Rem.s (Rem.s (Rem.s (Rem.s (Rem.s (Rem.s Rem.z))))))) | apply Rems.s (Rem.s (Rem.s (Rem.s (Rem.s (Rem.s (Rem.s (Rem.s (Rem.s Rem.z)))))))) | apply Rems.s (Rem.s (Rem.s (Rem.s (Rem.s (Rem.s (Rem.s (Rem.s (Rem.s (Rem.s Rem.z))))))))))))
          · first
            | (exfalso; omega)
            |
              refine R_nil ?_
              refine K_tn ?_
              refine K_cond_f rfl ?_
              refine K_skip ?_
              refine K_bn ?_
              refine K_tn ?_
              refine R_region ?_
              refine r_move rfl rfl rfl ?_
              first | refine r_addN rfl rfl rfl rfl (i64K (by omega) (by omega)) ?_ | refine r_add rfl rfl rfl rfl (i64K (by omega) (by omega)) ?_
              refine r_assign rfl rfl rfl ?_
              refine R_nil ?_
              refine K_tn ?_
              first | (have hE := filterI_t (P := (isEarly (arrF n rs c g) fs hi)) (k := k) h41; have hEl := filterI_tl (P := (isEarly (arrF n rs c g) fs hi)) (k := k) h41; rw [hE, hEl]) | (have hE := filterI_f (P := (isEarly (arrF n rs c g) fs hi)) (k := k) h41; have hEl := congrArg List.length hE; rw [hE])
              first | (have hL := filterI_t (P := (isLate (arrF n rs c g) fs lo)) (k := k) h48; have hLl := filterI_tl (P := (isLate (arrF n rs c g) fs lo)) (k := k) h48; rw [hL, hLl]) | (have hL := filterI_f (P := (isLate (arrF n rs c g) fs lo)) (k := k) h48; have hLl := congrArg List.length hL; rw [hL])
              first | (exact K_again3 (pre := (fun (k : Nat) (p q : RowP) => k ≤ m ∧ (filterI k (isEarly (arrF n rs c g) fs hi)).length + p.junk.length = p.cap ∧ (filterI k (isLate (arrF n rs c g) fs lo)).length + q.junk.length = q.cap)) (Ei := (fun k p q => [(0, .pointer (some ⟨b, 0, none⟩)), (1, .float .f32 c), (2, .float .f32 g), (3, .pointer (some ⟨b2, 0, none⟩)), (4, .float .f32 lo), (5, .float .f32 hi), (14, .slice (some ⟨p.b, 0, none⟩) (filterI k (isEarly (arrF n rs c g) fs hi)).length p.cap), (15, .slice (some ⟨q.b, 0, none⟩) (filterI k (isLate (arrF n rs c g) fs lo)).length q.cap), (16, .int .i64 (k : Int))])) (Hi := (fun k p q => [(p.b, .cells (il (filterI k (isEarly (arrF n rs c g) fs hi)) ++ p.junk).toArray p.u (0, 0)), (q.b, .cells (il (filterI k (isLate (arrF n rs c g) fs lo)) ++ q.junk).toArray q.u (0, 0))])) (μ := (fun k _ _ => m - k)) (k + 1) (RowP.mk b45 cap45 junk45 u45) (RowP.mk b52 cap52 junk52 u52) (by refine ⟨?_, ?_, ?_⟩ <;> (try simp only) <;> omega) (by omega) (by repeat (first | exact trivial | refine ⟨rfl, ?_⟩)) (by repeat (first | exact .z | apply Rems.s Rem.z | apply Rems.s (Rem.s Rem.z) | apply Rems.s (Rem.s (Rem.s Rem.z)) | apply Rems.s (Rem.s (Rem.s (Rem.s Rem.z))) | apply Rems.s (Rem.s (Rem.s (Rem.s (Rem.s Rem.z)))) | apply Rems.s (Rem.s (Rem.s (Rem.s (Rem.s (Rem.s Rem.z))))) | apply Rems.s (Rem.s (Rem.s (Rem.s (Rem.s (Rem.s (Rem.s Rem.z)))))) | apply Rems.s (Rem.s (Rem.s (Rem.s (Rem.s (Rem.s (Rem.s (Rem.s Rem.z))))))) | apply Rems.s (Rem.s (Rem.s (Rem.s (Rem.s (Rem.s (Rem.s (Rem.s (Rem.s Rem.z)))))))) | apply Rems.s (Rem.s (Rem.s (Rem.s (Rem.s (Rem.s (Rem.s (Rem.s (Rem.s (Rem.s Rem.z)))))))))))) | (exact K_again3 (pre := (fun (k : Nat) (p q : RowP) => k ≤ m ∧ (filterI k (isEarly (arrF n rs c g) fs hi)).length + p.junk.length = p.cap ∧ (filterI k (isLate (arrF n rs c g) fs lo)).length + q.junk.length = q.cap)) (Ei := (fun k p q => [(0, .pointer (some ⟨b, 0, none⟩)), (1, .float .f32 c), (2, .float .f32 g), (3, .pointer (some ⟨b2, 0, none⟩)), (4, .float .f32 lo), (5, .float .f32 hi), (14, .slice (some ⟨p.b, 0, none⟩) (filterI k (isEarly (arrF n rs c g) fs hi)).length p.cap), (15, .slice (some ⟨q.b, 0, none⟩) (filterI k (isLate (arrF n rs c g) fs lo)).length q.cap), (16, .int .i64 (k : Int))])) (Hi := (fun k p q => [(p.b, .cells (il (filterI k (isEarly (arrF n rs c g) fs hi)) ++ p.junk).toArray p.u (0, 0)), (q.b, .cells (il (filterI k (isLate (arrF n rs c g) fs lo)) ++ q.junk).toArray q.u (0, 0))])) (μ := (fun k _ _ => m - k)) (k + 1) (RowP.mk b45 cap45 junk45 u45) q (by refine ⟨?_, ?_, ?_⟩ <;> (try simp only) <;> omega) (by omega) (by repeat (first | exact trivial | refine ⟨rfl, ?_⟩)) (by repeat (first | exact .z | apply Rems.s Rem.z | apply Rems.s (Rem.s Rem.z) | apply Rems.s (Rem.s (Rem.s Rem.z)) | apply Rems.s (Rem.s (Rem.s (Rem.s Rem.z))) | apply Rems.s (Rem.s (Rem.s (Rem.s (Rem.s Rem.z)))) | apply Rems.s (Rem.s (Rem.s (Rem.s (Rem.s (Rem.s Rem.z))))) | apply Rems.s (Rem.s (Rem.s (Rem.s (Rem.s (Rem.s (Rem.s Rem.z)))))) | apply Rems.s (Rem.s (Rem.s (Rem.s (Rem.s (Rem.s (Rem.s (Rem.s Rem.z))))))) | apply Rems.s (Rem.s (Rem.s (Rem.s (Rem.s (Rem.s (Rem.s (Rem.s (Rem.s Rem.z)))))))) | apply Rems.s (Rem.s (Rem.s (Rem.s (Rem.s (Rem.s (Rem.s (Rem.s (Rem.s (Rem.s Rem.z)))))))))))) | (exact K_again3 (pre := (fun (k : Nat) (p q : RowP) => k ≤ m ∧ (filterI k (isEarly (arrF n rs c g) fs hi)).length + p.junk.length = p.cap ∧ (filterI k (isLate (arrF n rs c g) fs lo)).length + q.junk.length = q.cap)) (Ei := (fun k p q => [(0, .pointer (some ⟨b, 0, none⟩)), (1, .float .f32 c), (2, .float .f32 g), (3, .pointer (some ⟨b2, 0, none⟩)), (4, .float .f32 lo), (5, .float .f32 hi), (14, .slice (some ⟨p.b, 0, none⟩) (filterI k (isEarly (arrF n rs c g) fs hi)).length p.cap), (15, .slice (some ⟨q.b, 0, none⟩) (filterI k (isLate (arrF n rs c g) fs lo)).length q.cap), (16, .int .i64 (k : Int))])) (Hi := (fun k p q => [(p.b, .cells (il (filterI k (isEarly (arrF n rs c g) fs hi)) ++ p.junk).toArray p.u (0, 0)), (q.b, .cells (il (filterI k (isLate (arrF n rs c g) fs lo)) ++ q.junk).toArray q.u (0, 0))])) (μ := (fun k _ _ => m - k)) (k + 1) p (RowP.mk b52 cap52 junk52 u52) (by refine ⟨?_, ?_, ?_⟩ <;> (try simp only) <;> omega) (by omega) (by repeat (first | exact trivial | refine ⟨rfl, ?_⟩)) (by repeat (first | exact .z | apply Rems.s Rem.z | apply Rems.s (Rem.s Rem.z) | apply Rems.s (Rem.s (Rem.s Rem.z)) | apply Rems.s (Rem.s (Rem.s (Rem.s Rem.z))) | apply Rems.s (Rem.s (Rem.s (Rem.s (Rem.s Rem.z)))) | apply Rems.s (Rem.s (Rem.s (Rem.s (Rem.s (Rem.s Rem.z))))) | apply Rems.s (Rem.s (Rem.s (Rem.s (Rem.s (Rem.s (Rem.s Rem.z)))))) | apply Rems.s (Rem.s (Rem.s (Rem.s (Rem.s (Rem.s (Rem.s (Rem.s Rem.z))))))) | apply Rems.s (Rem.s (Rem.s (Rem.s (Rem.s (Rem.s (Rem.s (Rem.s (Rem.s Rem.z)))))))) | apply Rems.s (Rem.s (Rem.s (Rem.s (Rem.s (Rem.s (Rem.s (Rem.s (Rem.s (Rem.s Rem.z)))))))))))) | (exact K_again3 (pre := (fun (k : Nat) (p q : RowP) => k ≤ m ∧ (filterI k (isEarly (arrF n rs c g) fs hi)).length + p.junk.length = p.cap ∧ (filterI k (isLate (arrF n rs c g) fs lo)).length + q.junk.length = q.cap)) (Ei := (fun k p q => [(0, .pointer (some ⟨b, 0, none⟩)), (1, .float .f32 c), (2, .float .f32 g), (3, .pointer (some ⟨b2, 0, none⟩)), (4, .float .f32 lo), (5, .float .f32 hi), (14, .slice (some ⟨p.b, 0, none⟩) (filterI k (isEarly (arrF n rs c g) fs hi)).length p.cap), (15, .slice (some ⟨q.b, 0, none⟩) (filterI k (isLate (arrF n rs c g) fs lo)).length q.cap), (16, .int .i64 (k : Int))])) (Hi := (fun k p q => [(p.b, .cells (il (filterI k (isEarly (arrF n rs c g) fs hi)) ++ p.junk).toArray p.u (0, 0)), (q.b, .cells (il (filterI k (isLate (arrF n rs c g) fs lo)) ++ q.junk).toArray q.u (0, 0))])) (μ := (fun k _ _ => m - k)) (k + 1) p q (by refine ⟨?_, ?_, ?_⟩ <;> (try simp only) <;> omega) (by omega) (by repeat (first | exact trivial | refine ⟨rfl, ?_⟩)) (by repeat (first | exact .z | apply Rems.s Rem.z | apply Rems.s (Rem.s Rem.z) | apply Rems.s (Rem.s (Rem.s Rem.z)) | apply Rems.s (Rem.s (Rem.s (Rem.s Rem.z))) | apply Rems.s (Rem.s (Rem.s (Rem.s (Rem.s Rem.z)))) | apply Rems.s (Rem.s (Rem.s (Rem.s (Rem.s (Rem.s Rem.z))))) | apply Rems.s (Rem.s (Rem.s (Rem.s (Rem.s (Rem.s (Rem.s Rem.z)))))) | apply Rems.s (Rem.s (Rem.s (Rem.s (Rem.s (Rem.s (Rem.s (Rem.s Rem.z))))))) | apply Rems.s (Rem.s (Rem.s (Rem.s (Rem.s (Rem.s (Rem.s (Rem.s (Rem.s Rem.z)))))))) | apply Rems.s (Rem.s (Rem.s (Rem.s (Rem.s (Rem.s (Rem.s (Rem.s (Rem.s (Rem.s Rem.z))))))))))))
      · first
        | (exfalso; omega)
        |
          refine R_nil ?_
          refine K_tn ?_
          refine K_cond_f rfl ?_
          refine K_skip ?_
          refine K_tn ?_
          refine K_seq ?_
          refine R_region ?_
          refine r_move rfl rfl rfl ?_
          refine r_move rfl rfl rfl ?_
          refine s_fcmp rfl rfl rfl rfl (fun _ _ => run_flt) (fun h48 => ?_) (fun h48 => ?_)
          · first
            | (exfalso; omega)
            |
              refine R_nil ?_
              refine K_tn ?_
              refine K_cond_t rfl ?_
              refine R_region ?_
              refine r_move rfl rfl rfl ?_
              refine r_move rfl rfl rfl ?_
              refine r_buildSlice sl_60 sz_2 zr_2 rfl rfl rfl rfl rfl (by first | rfl) (fun b51 => ?_)
              refine r_appendI sl_60 sl_60 sz_2 zr_2 rfl by_2 rfl rfl rfl rfl rfl (by first | exact .h .z | exact .h (.s .z) | exact .h (.s (.s .z)) | exact .h (.s (.s (.s .z))) | exact .h (.s (.s (.s (.s .z)))) | exact .h (.s (.s (.s (.s (.s .z))))) | exact .h (.s (.s (.s (.s (.s (.s .z)))))) | exact .h (.s (.s (.s (.s (.s (.s (.s .z))))))) | exact .h (.s (.s (.s (.s (.s (.s (.s (.s .z)))))))) | exact .x .z | exact .x (.s .z) | exact .x (.s (.s .z)) | exact .x (.s (.s (.s .z))) | exact .x (.s (.s (.s (.s .z)))) | exact .x (.s (.s (.s (.s (.s .z))))) | exact .x (.s (.s (.s (.s (.s (.s .z))))))) (by first | exact .z | exact (.s .z) | exact (.s (.s .z)) | exact (.s (.s (.s .z))) | exact (.s (.s (.s (.s .z)))) | exact (.s (.s (.s (.s (.s .z))))) | exact (.s (.s (.s (.s (.s (.s .z)))))) | exact (.s (.s (.s (.s (.s (.s (.s .z))))))) | exact (.s (.s (.s (.s (.s (.s (.s (.s .z)))))))) | exact (.s (.s (.s (.s (.s (.s (.s (.s (.s .z)))))))))) (by omega) (by omega) (by omega) (fun b52 cap52 junk52 u52 hj52 => ?_)
              refine r_assign rfl rfl rfl ?_
              refine R_nil ?_
              refine K_bn ?_
              refine K_tn ?_
              refine R_region ?_
              refine r_move rfl rfl rfl ?_
              first | refine r_addN rfl rfl rfl rfl (i64K (by omega) (by omega)) ?_ | refine r_add rfl rfl rfl rfl (i64K (by omega) (by omega)) ?_
              refine r_assign rfl rfl rfl ?_
              refine R_nil ?_
              refine K_tn ?_
              first | (have hE := filterI_t (P := (isEarly (arrF n rs c g) fs hi)) (k := k) h41; have hEl := filterI_tl (P := (isEarly (arrF n rs c g) fs hi)) (k := k) h41; rw [hE, hEl]) | (have hE := filterI_f (P := (isEarly (arrF n rs c g) fs hi)) (k := k) h41; have hEl := congrArg List.length hE; rw [hE])
              first | (have hL := filterI_t (P := (isLate (arrF n rs c g) fs lo)) (k := k) h48; have hLl := filterI_tl (P := (isLate (arrF n rs c g) fs lo)) (k := k) h48; rw [hL, hLl]) | (have hL := filterI_f (P := (isLate (arrF n rs c g) fs lo)) (k := k) h48; have hLl := congrArg List.length hL; rw [hL])
              first | (exact K_again3 (pre := (fun (k : Nat) (p q : RowP) => k ≤ m ∧ (filterI k (isEarly (arrF n rs c g) fs hi)).length + p.junk.length = p.cap ∧ (filterI k (isLate (arrF n rs c g) fs lo)).length + q.junk.length = q.cap)) (Ei := (fun k p q => [(0, .pointer (some ⟨b, 0, none⟩)), (1, .float .f32 c), (2, .float .f32 g), (3, .pointer (some ⟨b2, 0, none⟩)), (4, .float .f32 lo), (5, .float .f32 hi), (14, .slice (some ⟨p.b, 0, none⟩) (filterI k (isEarly (arrF n rs c g) fs hi)).length p.cap), (15, .slice (some ⟨q.b, 0, none⟩) (filterI k (isLate (arrF n rs c g) fs lo)).length q.cap), (16, .int .i64 (k : Int))])) (Hi := (fun k p q => [(p.b, .cells (il (filterI k (isEarly (arrF n rs c g) fs hi)) ++ p.junk).toArray p.u (0, 0)), (q.b, .cells (il (filterI k (isLate (arrF n rs c g) fs lo)) ++ q.junk).toArray q.u (0, 0))])) (μ := (fun k _ _ => m - k)) (k + 1) (RowP.mk b45 cap45 junk45 u45) (RowP.mk b52 cap52 junk52 u52) (by refine ⟨?_, ?_, ?_⟩ <;> (try simp only) <;> omega) (by omega) (by repeat (first | exact trivial | refine ⟨rfl, ?_⟩)) (by repeat (first | exact .z | apply Rems.s Rem.z | apply Rems.s (Rem.s Rem.z) | apply Rems.s (Rem.s (Rem.s Rem.z)) | apply Rems.s (Rem.s (Rem.s (Rem.s Rem.z))) | apply Rems.s (Rem.s (Rem.s (Rem.s (Rem.s Rem.z)))) | apply Rems.s (Rem.s (Rem.s (Rem.s (Rem.s (Rem.s Rem.z))))) | apply Rems.s (Rem.s (Rem.s (Rem.s (Rem.s (Rem.s (Rem.s Rem.z)))))) | apply Rems.s (Rem.s (Rem.s (Rem.s (Rem.s (Rem.s (Rem.s (Rem.s Rem.z))))))) | apply Rems.s (Rem.s (Rem.s (Rem.s (Rem.s (Rem.s (Rem.s (Rem.s (Rem.s Rem.z)))))))) | apply Rems.s (Rem.s (Rem.s (Rem.s (Rem.s (Rem.s (Rem.s (Rem.s (Rem.s (Rem.s Rem.z)))))))))))) | (exact K_again3 (pre := (fun (k : Nat) (p q : RowP) => k ≤ m ∧ (filterI k (isEarly (arrF n rs c g) fs hi)).length + p.junk.length = p.cap ∧ (filterI k (isLate (arrF n rs c g) fs lo)).length + q.junk.length = q.cap)) (Ei := (fun k p q => [(0, .pointer (some ⟨b, 0, none⟩)), (1, .float .f32 c), (2, .float .f32 g), (3, .pointer (some ⟨b2, 0, none⟩)), (4, .float .f32 lo), (5, .float .f32 hi), (14, .slice (some ⟨p.b, 0, none⟩) (filterI k (isEarly (arrF n rs c g) fs hi)).length p.cap), (15, .slice (some ⟨q.b, 0, none⟩) (filterI k (isLate (arrF n rs c g) fs lo)).length q.cap), (16, .int .i64 (k : Int))])) (Hi := (fun k p q => [(p.b, .cells (il (filterI k (isEarly (arrF n rs c g) fs hi)) ++ p.junk).toArray p.u (0, 0)), (q.b, .cells (il (filterI k (isLate (arrF n rs c g) fs lo)) ++ q.junk).toArray q.u (0, 0))])) (μ := (fun k _ _ => m - k)) (k + 1) (RowP.mk b45 cap45 junk45 u45) q (by refine ⟨?_, ?_, ?_⟩ <;> (try simp only) <;> omega) (by omega) (by repeat (first | exact trivial | refine ⟨rfl, ?_⟩)) (by repeat (first | exact .z | apply Rems.s Rem.z | apply Rems.s (Rem.s Rem.z) | apply Rems.s (Rem.s (Rem.s Rem.z)) | apply Rems.s (Rem.s (Rem.s (Rem.s Rem.z))) | apply Rems.s (Rem.s (Rem.s (Rem.s (Rem.s Rem.z)))) | apply Rems.s (Rem.s (Rem.s (Rem.s (Rem.s (Rem.s Rem.z))))) | apply Rems.s (Rem.s (Rem.s (Rem.s (Rem.s (Rem.s (Rem.s Rem.z)))))) | apply Rems.s (Rem.s (Rem.s (Rem.s (Rem.s (Rem.s (Rem.s (Rem.s Rem.z))))))) | apply Rems.s (Rem.s (Rem.s (Rem.s (Rem.s (Rem.s (Rem.s (Rem.s (Rem.s Rem.z)))))))) | apply Rems.s (Rem.s (Rem.s (Rem.s (Rem.s (Rem.s (Rem.s (Rem.s (Rem.s (Rem.s Rem.z)))))))))))) | (exact K_again3 (pre := (fun (k : Nat) (p q : RowP) => k ≤ m ∧ (filterI k (isEarly (arrF n rs c g) fs hi)).length + p.junk.length = p.cap ∧ (filterI k (isLate (arrF n rs c g) fs lo)).length + q.junk.length = q.cap)) (Ei := (fun k p q => [(0, .pointer (some ⟨b, 0, none⟩)), (1, .float .f32 c), (2, .float .f32 g), (3, .pointer (some ⟨b2, 0, none⟩)), (4, .float .f32 lo), (5, .float .f32 hi), (14, .slice (some ⟨p.b, 0, none⟩) (filterI k (isEarly (arrF n rs c g) fs hi)).length p.cap), (15, .slice (some ⟨q.b, 0, none⟩) (filterI k (isLate (arrF n rs c g) fs lo)).length q.cap), (16, .int .i64 (k : Int))])) (Hi := (fun k p q => [(p.b, .cells (il (filterI k (isEarly (arrF n rs c g) fs hi)) ++ p.junk).toArray p.u (0, 0)), (q.b, .cells (il (filterI k (isLate (arrF n rs c g) fs lo)) ++ q.junk).toArray q.u (0, 0))])) (μ := (fun k _ _ => m - k)) (k + 1) p (RowP.mk b52 cap52 junk52 u52) (by refine ⟨?_, ?_, ?_⟩ <;> (try simp only) <;> omega) (by omega) (by repeat (first | exact trivial | refine ⟨rfl, ?_⟩)) (by repeat (first | exact .z | apply Rems.s Rem.z | apply Rems.s (Rem.s Rem.z) | apply Rems.s (Rem.s (Rem.s Rem.z)) | apply Rems.s (Rem.s (Rem.s (Rem.s Rem.z))) | apply Rems.s (Rem.s (Rem.s (Rem.s (Rem.s Rem.z)))) | apply Rems.s (Rem.s (Rem.s (Rem.s (Rem.s (Rem.s Rem.z))))) | apply Rems.s (Rem.s (Rem.s (Rem.s (Rem.s (Rem.s (Rem.s Rem.z)))))) | apply Rems.s (Rem.s (Rem.s (Rem.s (Rem.s (Rem.s (Rem.s (Rem.s Rem.z))))))) | apply Rems.s (Rem.s (Rem.s (Rem.s (Rem.s (Rem.s (Rem.s (Rem.s (Rem.s Rem.z)))))))) | apply Rems.s (Rem.s (Rem.s (Rem.s (Rem.s (Rem.s (Rem.s (Rem.s (Rem.s (Rem.s Rem.z)))))))))))) | (exact K_again3 (pre := (fun (k : Nat) (p q : RowP) => k ≤ m ∧ (filterI k (isEarly (arrF n rs c g) fs hi)).length + p.junk.length = p.cap ∧ (filterI k (isLate (arrF n rs c g) fs lo)).length + q.junk.length = q.cap)) (Ei := (fun k p q => [(0, .pointer (some ⟨b, 0, none⟩)), (1, .float .f32 c), (2, .float .f32 g), (3, .pointer (some ⟨b2, 0, none⟩)), (4, .float .f32 lo), (5, .float .f32 hi), (14, .slice (some ⟨p.b, 0, none⟩) (filterI k (isEarly (arrF n rs c g) fs hi)).length p.cap), (15, .slice (some ⟨q.b, 0, none⟩) (filterI k (isLate (arrF n rs c g) fs lo)).length q.cap), (16, .int .i64 (k : Int))])) (Hi := (fun k p q => [(p.b, .cells (il (filterI k (isEarly (arrF n rs c g) fs hi)) ++ p.junk).toArray p.u (0, 0)), (q.b, .cells (il (filterI k (isLate (arrF n rs c g) fs lo)) ++ q.junk).toArray q.u (0, 0))])) (μ := (fun k _ _ => m - k)) (k + 1) p q (by refine ⟨?_, ?_, ?_⟩ <;> (try simp only) <;> omega) (by omega) (by repeat (first | exact trivial | refine ⟨rfl, ?_⟩)) (by repeat (first | exact .z | apply Rems.s Rem.z | apply Rems.s (Rem.s Rem.z) | apply Rems.s (Rem.s (Rem.s Rem.z)) | apply Rems.s (Rem.s (Rem.s (Rem.s Rem.z))) | apply Rems.s (Rem.s (Rem.s (Rem.s (Rem.s Rem.z)))) | apply Rems.s (Rem.s (Rem.s (Rem.s (Rem.s (Rem.s Rem.z))))) | apply Rems.s (Rem.s (Rem.s (Rem.s (Rem.s (Rem.s (Rem.s Rem.z)))))) | apply Rems.s (Rem.s (Rem.s (Rem.s (Rem.s (Rem.s (Rem.s (Rem.s Rem.z))))))) | apply Rems.s (Rem.s (Rem.s (Rem.s (Rem.s (Rem.s (Rem.s (Rem.s (Rem.s Rem.z)))))))) | apply Rems.s (Rem.s (Rem.s (Rem.s (Rem.s (Rem.s (Rem.s (Rem.s (Rem.s (Rem.s Rem.z))))))))))))
          · first
            | (exfalso; omega)
            |
              refine R_nil ?_
              refine K_tn ?_
              refine K_cond_f rfl ?_
              refine K_skip ?_
              refine K_bn ?_
              refine K_tn ?_
              refine R_region ?_
              refine r_move rfl rfl rfl ?_
              first | refine r_addN rfl rfl rfl rfl (i64K (by omega) (by omega)) ?_ | refine r_add rfl rfl rfl rfl (i64K (by omega) (by omega)) ?_
              refine r_assign rfl rfl rfl ?_
              refine R_nil ?_
              refine K_tn ?_
              first | (have hE := filterI_t (P := (isEarly (arrF n rs c g) fs hi)) (k := k) h41; have hEl := filterI_tl (P := (isEarly (arrF n rs c g) fs hi)) (k := k) h41; rw [hE, hEl]) | (have hE := filterI_f (P := (isEarly (arrF n rs c g) fs hi)) (k := k) h41; have hEl := congrArg List.length hE; rw [hE])
              first | (have hL := filterI_t (P := (isLate (arrF n rs c g) fs lo)) (k := k) h48; have hLl := filterI_tl (P := (isLate (arrF n rs c g) fs lo)) (k := k) h48; rw [hL, hLl]) | (have hL := filterI_f (P := (isLate (arrF n rs c g) fs lo)) (k := k) h48; have hLl := congrArg List.length hL; rw [hL])
              first | (exact K_again3 (pre := (fun (k : Nat) (p q : RowP) => k ≤ m ∧ (filterI k (isEarly (arrF n rs c g) fs hi)).length + p.junk.length = p.cap ∧ (filterI k (isLate (arrF n rs c g) fs lo)).length + q.junk.length = q.cap)) (Ei := (fun k p q => [(0, .pointer (some ⟨b, 0, none⟩)), (1, .float .f32 c), (2, .float .f32 g), (3, .pointer (some ⟨b2, 0, none⟩)), (4, .float .f32 lo), (5, .float .f32 hi), (14, .slice (some ⟨p.b, 0, none⟩) (filterI k (isEarly (arrF n rs c g) fs hi)).length p.cap), (15, .slice (some ⟨q.b, 0, none⟩) (filterI k (isLate (arrF n rs c g) fs lo)).length q.cap), (16, .int .i64 (k : Int))])) (Hi := (fun k p q => [(p.b, .cells (il (filterI k (isEarly (arrF n rs c g) fs hi)) ++ p.junk).toArray p.u (0, 0)), (q.b, .cells (il (filterI k (isLate (arrF n rs c g) fs lo)) ++ q.junk).toArray q.u (0, 0))])) (μ := (fun k _ _ => m - k)) (k + 1) (RowP.mk b45 cap45 junk45 u45) (RowP.mk b52 cap52 junk52 u52) (by refine ⟨?_, ?_, ?_⟩ <;> (try simp only) <;> omega) (by omega) (by repeat (first | exact trivial | refine ⟨rfl, ?_⟩)) (by repeat (first | exact .z | apply Rems.s Rem.z | apply Rems.s (Rem.s Rem.z) | apply Rems.s (Rem.s (Rem.s Rem.z)) | apply Rems.s (Rem.s (Rem.s (Rem.s Rem.z))) | apply Rems.s (Rem.s (Rem.s (Rem.s (Rem.s Rem.z)))) | apply Rems.s (Rem.s (Rem.s (Rem.s (Rem.s (Rem.s Rem.z))))) | apply Rems.s (Rem.s (Rem.s (Rem.s (Rem.s (Rem.s (Rem.s Rem.z)))))) | apply Rems.s (Rem.s (Rem.s (Rem.s (Rem.s (Rem.s (Rem.s (Rem.s Rem.z))))))) | apply Rems.s (Rem.s (Rem.s (Rem.s (Rem.s (Rem.s (Rem.s (Rem.s (Rem.s Rem.z)))))))) | apply Rems.s (Rem.s (Rem.s (Rem.s (Rem.s (Rem.s (Rem.s (Rem.s (Rem.s (Rem.s Rem.z)))))))))))) | (exact K_again3 (pre := (fun (k : Nat) (p q : RowP) => k ≤ m ∧ (filterI k (isEarly (arrF n rs c g) fs hi)).length + p.junk.length = p.cap ∧ (filterI k (isLate (arrF n rs c g) fs lo)).length + q.junk.length = q.cap)) (Ei := (fun k p q => [(0, .pointer (some ⟨b, 0, none⟩)), (1, .float .f32 c), (2, .float .f32 g), (3, .pointer (some ⟨b2, 0, none⟩)), (4, .float .f32 lo), (5, .float .f32 hi), (14, .slice (some ⟨p.b, 0, none⟩) (filterI k (isEarly (arrF n rs c g) fs hi)).length p.cap), (15, .slice (some ⟨q.b, 0, none⟩) (filterI k (isLate (arrF n rs c g) fs lo)).length q.cap), (16, .int .i64 (k : Int))])) (Hi := (fun k p q => [(p.b, .cells (il (filterI k (isEarly (arrF n rs c g) fs hi)) ++ p.junk).toArray p.u (0, 0)), (q.b, .cells (il (filterI k (isLate (arrF n rs c g) fs lo)) ++ q.junk).toArray q.u (0, 0))])) (μ := (fun k _ _ => m - k)) (k + 1) (RowP.mk b45 cap45 junk45 u45) q (by refine ⟨?_, ?_, ?_⟩ <;> (try simp only) <;> omega) (by omega) (by repeat (first | exact trivial | refine ⟨rfl, ?_⟩)) (by repeat (first | exact .z | apply Rems.s Rem.z | apply Rems.s (Rem.s Rem.z) | apply Rems.s (Rem.s (Rem.s Rem.z)) | apply Rems.s (Rem.s (Rem.s (Rem.s Rem.z))) | apply Rems.s (Rem.s (Rem.s (Rem.s (Rem.s Rem.z)))) | apply Rems.s (Rem.s (Rem.s (Rem.s (Rem.s (Rem.s Rem.z))))) | apply Rems.s (Rem.s (Rem.s (Rem.s (Rem.s (Rem.s (Rem.s Rem.z)))))) | apply Rems.s (Rem.s (Rem.s (Rem.s (Rem.s (Rem.s (Rem.s (Rem.s Rem.z))))))) | apply Rems.s (Rem.s (Rem.s (Rem.s (Rem.s (Rem.s (Rem.s (Rem.s (Rem.s Rem.z)))))))) | apply Rems.s (Rem.s (Rem.s (Rem.s (Rem.s (Rem.s (Rem.s (Rem.s (Rem.s (Rem.s Rem.z)))))))))))) | (exact K_again3 (pre := (fun (k : Nat) (p q : RowP) => k ≤ m ∧ (filterI k (isEarly (arrF n rs c g) fs hi)).length + p.junk.length = p.cap ∧ (filterI k (isLate (arrF n rs c g) fs lo)).length + q.junk.length = q.cap)) (Ei := (fun k p q => [(0, .pointer (some ⟨b, 0, none⟩)), (1, .float .f32 c), (2, .float .f32 g), (3, .pointer (some ⟨b2, 0, none⟩)), (4, .float .f32 lo), (5, .float .f32 hi), (14, .slice (some ⟨p.b, 0, none⟩) (filterI k (isEarly (arrF n rs c g) fs hi)).length p.cap), (15, .slice (some ⟨q.b, 0, none⟩) (filterI k (isLate (arrF n rs c g) fs lo)).length q.cap), (16, .int .i64 (k : Int))])) (Hi := (fun k p q => [(p.b, .cells (il (filterI k (isEarly (arrF n rs c g) fs hi)) ++ p.junk).toArray p.u (0, 0)), (q.b, .cells (il (filterI k (isLate (arrF n rs c g) fs lo)) ++ q.junk).toArray q.u (0, 0))])) (μ := (fun k _ _ => m - k)) (k + 1) p (RowP.mk b52 cap52 junk52 u52) (by refine ⟨?_, ?_, ?_⟩ <;> (try simp only) <;> omega) (by omega) (by repeat (first | exact trivial | refine ⟨rfl, ?_⟩)) (by repeat (first | exact .z | apply Rems.s Rem.z | apply Rems.s (Rem.s Rem.z) | apply Rems.s (Rem.s (Rem.s Rem.z)) | apply Rems.s (Rem.s (Rem.s (Rem.s Rem.z))) | apply Rems.s (Rem.s (Rem.s (Rem.s (Rem.s Rem.z)))) | apply Rems.s (Rem.s (Rem.s (Rem.s (Rem.s (Rem.s Rem.z))))) | apply Rems.s (Rem.s (Rem.s (Rem.s (Rem.s (Rem.s (Rem.s Rem.z)))))) | apply Rems.s (Rem.s (Rem.s (Rem.s (Rem.s (Rem.s (Rem.s (Rem.s Rem.z))))))) | apply Rems.s (Rem.s (Rem.s (Rem.s (Rem.s (Rem.s (Rem.s (Rem.s (Rem.s Rem.z)))))))) | apply Rems.s (Rem.s (Rem.s (Rem.s (Rem.s (Rem.s (Rem.s (Rem.s (Rem.s (Rem.s Rem.z)))))))))))) | (exact K_again3 (pre := (fun (k : Nat) (p q : RowP) => k ≤ m ∧ (filterI k (isEarly (arrF n rs c g) fs hi)).length + p.junk.length = p.cap ∧ (filterI k (isLate (arrF n rs c g) fs lo)).length + q.junk.length = q.cap)) (Ei := (fun k p q => [(0, .pointer (some ⟨b, 0, none⟩)), (1, .float .f32 c), (2, .float .f32 g), (3, .pointer (some ⟨b2, 0, none⟩)), (4, .float .f32 lo), (5, .float .f32 hi), (14, .slice (some ⟨p.b, 0, none⟩) (filterI k (isEarly (arrF n rs c g) fs hi)).length p.cap), (15, .slice (some ⟨q.b, 0, none⟩) (filterI k (isLate (arrF n rs c g) fs lo)).length q.cap), (16, .int .i64 (k : Int))])) (Hi := (fun k p q => [(p.b, .cells (il (filterI k (isEarly (arrF n rs c g) fs hi)) ++ p.junk).toArray p.u (0, 0)), (q.b, .cells (il (filterI k (isLate (arrF n rs c g) fs lo)) ++ q.junk).toArray q.u (0, 0))])) (μ := (fun k _ _ => m - k)) (k + 1) p q (by refine ⟨?_, ?_, ?_⟩ <;> (try simp only) <;> omega) (by omega) (by repeat (first | exact trivial | refine ⟨rfl, ?_⟩)) (by repeat (first | exact .z | apply Rems.s Rem.z | apply Rems.s (Rem.s Rem.z) | apply Rems.s (Rem.s (Rem.s Rem.z)) | apply Rems.s (Rem.s (Rem.s (Rem.s Rem.z))) | apply Rems.s (Rem.s (Rem.s (Rem.s (Rem.s Rem.z)))) | apply Rems.s (Rem.s (Rem.s (Rem.s (Rem.s (Rem.s Rem.z))))) | apply Rems.s (Rem.s (Rem.s (Rem.s (Rem.s (Rem.s (Rem.s Rem.z)))))) | apply Rems.s (Rem.s (Rem.s (Rem.s (Rem.s (Rem.s (Rem.s (Rem.s Rem.z))))))) | apply Rems.s (Rem.s (Rem.s (Rem.s (Rem.s (Rem.s (Rem.s (Rem.s (Rem.s Rem.z)))))))) | apply Rems.s (Rem.s (Rem.s (Rem.s (Rem.s (Rem.s (Rem.s (Rem.s (Rem.s (Rem.s Rem.z))))))))))))
  · first
    | (exfalso; omega)
    |
      refine R_nil ?_
      refine K_tn ?_
      refine K_cond_f rfl ?_
      refine K_exit ?_
      refine K_te ?_
      refine K_te ?_
      refine K_be ?_
      refine K_tn ?_
      refine K_seq ?_
      refine R_region ?_
      have hkn : k = m := by omega
      subst hkn
      refine r_move rfl rfl rfl ?_
      refine r_move rfl rfl rfl ?_
      refine r_assign rfl rfl rfl ?_
      refine r_assign rfl rfl rfl ?_
      refine R_nil ?_
      refine K_tn ?_
      refine K_ret ?_
      refine K_done (H' := [(p.b, .cells (il (filterI k (isEarly (arrF n rs c g) fs hi)) ++ p.junk).toArray p.u (0, 0)), (q.b, .cells (il (filterI k (isLate (arrF n rs c g) fs lo)) ++ q.junk).toArray q.u (0, 0))]) rfl rfl (.s (.tmp rfl) (.s (.tmp rfl) .z)) (by repeat (first | exact .z | apply Rems.s Rem.z | apply Rems.s (Rem.s Rem.z) | apply Rems.s (Rem.s (Rem.s Rem.z)) | apply Rems.s (Rem.s (Rem.s (Rem.s Rem.z))) | apply Rems.s (Rem.s (Rem.s (Rem.s (Rem.s Rem.z)))) | apply Rems.s (Rem.s (Rem.s (Rem.s (Rem.s (Rem.s Rem.z))))) | apply Rems.s (Rem.s (Rem.s (Rem.s (Rem.s (Rem.s (Rem.s Rem.z)))))) | apply Rems.s (Rem.s (Rem.s (Rem.s (Rem.s (Rem.s (Rem.s (Rem.s Rem.z))))))) | apply Rems.s (Rem.s (Rem.s (Rem.s (Rem.s (Rem.s (Rem.s (Rem.s (Rem.s Rem.z)))))))) | apply Rems.s (Rem.s (Rem.s (Rem.s (Rem.s (Rem.s (Rem.s (Rem.s (Rem.s (Rem.s Rem.z))))))))))) ?_
      exact ⟨p, q, rfl, hq1, hq2, rfl⟩

set_option maxRecDepth 20000 in
theorem earlyAndLate (m : Nat) (es : List Nat) (he : es.length = 16) (hm : m ≤ 16) (lo hi : Nat) (hnb : ∀ i, i < m → flt hi (es.getD i 0) = true → flt (es.getD i 0) lo = false) : Go.Sl.Spec Try.prog 86 [.agg (.int .i8 (m : Int) :: fl .f32 es).toArray, .float .f32 lo, .float .f32 hi] [] [] (RowII (filterI m (fun i => flt hi (es.getD i 0))) (filterI m (fun i => flt (es.getD i 0) lo))) := by
  refine spec_of Try.func86 rfl Try.ntmps86 rfl (fun w0 => ?_)
  refine K_seq ?_
  refine R_region ?_
  refine r_box rfl rfl rfl rfl (fun b3 => ?_)
  refine r_assign rfl rfl rfl ?_
  refine r_assign rfl rfl rfl ?_
  refine R_nil ?_
  refine K_tn ?_
  refine K_seq ?_
  refine R_region ?_
  refine r_buildSlice sl_60 sz_2 zr_2 rfl rfl rfl rfl rfl (by first | rfl) (fun b12 => ?_)
  refine r_buildSlice sl_60 sz_2 zr_2 rfl rfl rfl rfl rfl (by first | rfl) (fun b13 => ?_)
  refine r_assign rfl rfl rfl ?_
  refine r_assign rfl rfl rfl ?_
  refine R_nil ?_
  refine K_tn ?_
  refine K_seq ?_
  refine K_seq ?_
  refine R_region ?_
  refine r_callV cb_100 rfl rfl rfl rfl rfl (fruits _ _ _ (by omega) _ _) (by repeat (first | exact .z | refine .s (.h .z) ?_ | refine .s (.h (.s .z)) ?_ | refine .s (.h (.s (.s .z))) ?_ | refine .s (.h (.s (.s (.s .z)))) ?_ | refine .s (.h (.s (.s (.s (.s .z))))) ?_ | refine .s (.h (.s (.s (.s (.s (.s .z)))))) ?_ | refine .s (.h (.s (.s (.s (.s (.s (.s .z))))))) ?_ | refine .s (.h (.s (.s (.s (.s (.s (.s (.s .z)))))))) ?_ | refine .s (.h (.s (.s (.s (.s (.s (.s (.s (.s .z))))))))) ?_ | refine .s (.x .z) ?_ | refine .s (.x (.s .z)) ?_ | refine .s (.x (.s (.s .z))) ?_ | refine .s (.x (.s (.s (.s .z)))) ?_ | refine .s (.x (.s (.s (.s (.s .z))))) ?_ | refine .s (.x (.s (.s (.s (.s (.s .z)))))) ?_ | refine .s (.x (.s (.s (.s (.s (.s (.s .z))))))) ?_)) ?_
  refine r_lenS sl_47 rfl rfl rfl ?_
  refine r_move rfl rfl rfl ?_
  refine R_nil ?_
  refine K_tn ?_
  refine K_block ?_
  refine K_loop3 (fun (k : Nat) (p q : RowP) => k ≤ m ∧ (filterI k (fun i => flt hi (es.getD i 0))).length + p.junk.length = p.cap ∧ (filterI k (fun i => flt (es.getD i 0) lo)).length + q.junk.length = q.cap) (fun k p q => [(1, .float .f32 lo), (2, .float .f32 hi), (8, .slice (some ⟨p.b, 0, none⟩) (filterI k (fun i => flt hi (es.getD i 0))).length p.cap), (9, .slice (some ⟨q.b, 0, none⟩) (filterI k (fun i => flt (es.getD i 0) lo)).length q.cap), (14, .slice (some ⟨b3, 0 + 1, none⟩) m 16), (15, .int .i64 (m : Int)), (16, .int .i64 (k : Int))]) (fun k p q => [(p.b, .cells (il (filterI k (fun i => flt hi (es.getD i 0))) ++ p.junk).toArray p.u (0, 0)), (q.b, .cells (il (filterI k (fun i => flt (es.getD i 0) lo)) ++ q.junk).toArray q.u (0, 0)), (b3, .cells (.int .i8 (m : Int) :: fl .f32 es).toArray 54 (0, 0))]) (fun k _ _ => m - k) 0 ⟨b12, 0, [], 2⟩ ⟨b13, 0, [], 2⟩ (by exact ⟨Nat.zero_le _, rfl, rfl⟩) (by repeat (first | exact trivial | refine ⟨rfl, ?_⟩)) (by repeat (first | exact .z | apply Rems.s Rem.z | apply Rems.s (Rem.s Rem.z) | apply Rems.s (Rem.s (Rem.s Rem.z)) | apply Rems.s (Rem.s (Rem.s (Rem.s Rem.z))) | apply Rems.s (Rem.s (Rem.s (Rem.s (Rem.s Rem.z)))) | apply Rems.s (Rem.s (Rem.s (Rem.s (Rem.s (Rem.s Rem.z))))) | apply Rems.s (Rem.s (Rem.s (Rem.s (Rem.s (Rem.s (Rem.s Rem.z)))))) | apply Rems.s (Rem.s (Rem.s (Rem.s (Rem.s (Rem.s (Rem.s (Rem.s Rem.z))))))) | apply Rems.s (Rem.s (Rem.s (Rem.s (Rem.s (Rem.s (Rem.s (Rem.s (Rem.s Rem.z)))))))) | apply Rems.s (Rem.s (Rem.s (Rem.s (Rem.s (Rem.s (Rem.s (Rem.s (Rem.s (Rem.s Rem.z))))))))))) (fun k p q hq0 => ?_)
  obtain ⟨hk, hq1, hq2⟩ := hq0
  refine K_seq ?_
  refine R_region ?_
  refine s_lss rfl rfl rfl rfl (fun h17 => ?_) (fun h17 => ?_)
  · first
    | (exfalso; omega)
    |
      refine R_nil ?_
      refine K_tn ?_
      refine K_seq ?_
      refine K_cond_t rfl ?_
      refine K_skip ?_
      refine K_tn ?_
      refine K_seq ?_
      refine K_block ?_
      refine K_seq ?_
      refine R_region ?_
      have hle1 := filterI_le k (fun i => flt hi (es.getD i 0))
      have hle2 := filterI_le k (fun i => flt (es.getD i 0) lo)
      refine r_move rfl rfl rfl ?_
      refine r_indexS sl_47 sz_23 rfl rfl rfl rfl (by omega) ?_
      refine r_load ag_23 rfl rfl rfl (by first | exact .h .z | exact .h (.s .z) | exact .h (.s (.s .z)) | exact .h (.s (.s (.s .z))) | exact .h (.s (.s (.s (.s .z)))) | exact .h (.s (.s (.s (.s (.s .z))))) | exact .h (.s (.s (.s (.s (.s (.s .z)))))) | exact .h (.s (.s (.s (.s (.s (.s (.s .z))))))) | exact .h (.s (.s (.s (.s (.s (.s (.s (.s .z)))))))) | exact .x .z | exact .x (.s .z) | exact .x (.s (.s .z)) | exact .x (.s (.s (.s .z))) | exact .x (.s (.s (.s (.s .z)))) | exact .x (.s (.s (.s (.s (.s .z))))) | exact .x (.s (.s (.s (.s (.s (.s .z))))))) (by first | rfl | exact gC (by omega) | exact takeC (by omega) | exact takeC0 (by omega)) ?_
      refine r_assign rfl rfl rfl ?_
      refine r_assign rfl rfl rfl ?_
      refine R_nil ?_
      refine K_tn ?_
      refine K_block ?_
      refine K_seq ?_
      refine R_region ?_
      refine r_move rfl rfl rfl ?_
      refine r_move rfl rfl rfl ?_
      refine s_fcmp rfl rfl rfl rfl (fun _ _ => run_fgt) (fun h24 => ?_) (fun h24 => ?_)
      · first
        | (exfalso; omega)
        |
          refine r_assign rfl rfl rfl ?_
          refine R_nil ?_
          refine K_tn ?_
          refine K_cond_t rfl ?_
          refine R_region ?_
          refine r_move rfl rfl rfl ?_
          refine r_move rfl rfl rfl ?_
          refine r_buildSlice sl_60 sz_2 zr_2 rfl rfl rfl rfl rfl (by first | rfl) (fun b27 => ?_)
          refine r_appendI sl_60 sl_60 sz_2 zr_2 rfl by_2 rfl rfl rfl rfl rfl (by first | exact .h .z | exact .h (.s .z) | exact .h (.s (.s .z)) | exact .h (.s (.s (.s .z))) | exact .h (.s (.s (.s (.s .z)))) | exact .h (.s (.s (.s (.s (.s .z))))) | exact .h (.s (.s (.s (.s (.s (.s .z)))))) | exact .h (.s (.s (.s (.s (.s (.s (.s .z))))))) | exact .h (.s (.s (.s (.s (.s (.s (.s (.s .z)))))))) | exact .x .z | exact .x (.s .z) | exact .x (.s (.s .z)) | exact .x (.s (.s (.s .z))) | exact .x (.s (.s (.s (.s .z)))) | exact .x (.s (.s (.s (.s (.s .z))))) | exact .x (.s (.s (.s (.s (.s (.s .z))))))) (by first | exact .z | exact (.s .z) | exact (.s (.s .z)) | exact (.s (.s (.s .z))) | exact (.s (.s (.s (.s .z)))) | exact (.s (.s (.s (.s (.s .z))))) | exact (.s (.s (.s (.s (.s (.s .z)))))) | exact (.s (.s (.s (.s (.s (.s (.s .z))))))) | exact (.s (.s (.s (.s (.s (.s (.s (.s .z)))))))) | exact (.s (.s (.s (.s (.s (.s (.s (.s (.s .z)))))))))) (by omega) (by omega) (by omega) (fun b28 cap28 junk28 u28 hj28 => ?_)
          refine r_assign rfl rfl rfl ?_
          refine R_nil ?_
          refine K_bn ?_
          refine K_bn ?_
          refine K_tn ?_
          refine R_region ?_
          first | refine r_addN rfl rfl rfl rfl (i64K (by omega) (by omega)) ?_ | refine r_add rfl rfl rfl rfl (i64K (by omega) (by omega)) ?_
          refine r_move rfl rfl rfl ?_
          refine R_nil ?_
          refine K_tn ?_
          first | (have hE := filterI_t (P := (fun i => flt hi (es.getD i 0))) (k := k) h24; have hEl := filterI_tl (P := (fun i => flt hi (es.getD i 0))) (k := k) h24; rw [hE, hEl]) | (have hE := filterI_f (P := (fun i => flt hi (es.getD i 0))) (k := k) h24; have hEl := congrArg List.length hE; rw [hE])
          first | (have hL := filterI_t (P := (fun i => flt (es.getD i 0) lo)) (k := k) h32; have hLl := filterI_tl (P := (fun i => flt (es.getD i 0) lo)) (k := k) h32; rw [hL, hLl]) | (have hL := filterI_f (P := (fun i => flt (es.getD i 0) lo)) (k := k) h32; have hLl := congrArg List.length hL; rw [hL]) | (have hL := filterI_f (P := (fun i => flt (es.getD i 0) lo)) (k := k) (hnb k (by omega) h24); have hLl := congrArg List.length hL; rw [hL])
          first | (exact K_again3 (pre := (fun (k : Nat) (p q : RowP) => k ≤ m ∧ (filterI k (fun i => flt hi (es.getD i 0))).length + p.junk.length = p.cap ∧ (filterI k (fun i => flt (es.getD i 0) lo)).length + q.junk.length = q.cap)) (Ei := (fun k p q => [(1, .float .f32 lo), (2, .float .f32 hi), (8, .slice (some ⟨p.b, 0, none⟩) (filterI k (fun i => flt hi (es.getD i 0))).length p.cap), (9, .slice (some ⟨q.b, 0, none⟩) (filterI k (fun i => flt (es.getD i 0) lo)).length q.cap), (14, .slice (some ⟨b3, 0 + 1, none⟩) m 16), (15, .int .i64 (m : Int)), (16, .int .i64 (k : Int))])) (Hi := (fun k p q => [(p.b, .cells (il (filterI k (fun i => flt hi (es.getD i 0))) ++ p.junk).toArray p.u (0, 0)), (q.b, .cells (il (filterI k (fun i => flt (es.getD i 0) lo)) ++ q.junk).toArray q.u (0, 0)), (b3, .cells (.int .i8 (m : Int) :: fl .f32 es).toArray 54 (0, 0))])) (μ := (fun k _ _ => m - k)) (k + 1) (RowP.mk b28 cap28 junk28 u28) (RowP.mk b36 cap36 junk36 u36) (by refine ⟨?_, ?_, ?_⟩ <;> (try simp only) <;> omega) (by omega) (by repeat (first | exact trivial | refine ⟨rfl, ?_⟩)) (by repeat (first | exact .z | apply Rems.s Rem.z | apply Rems.s (Rem.s Rem.z) | apply Rems.s (Rem.s (Rem.s Rem.z)) | apply Rems.s (Rem.s (Rem.s (Rem.s Rem.z))) | apply Rems.s (Rem.s (Rem.s (Rem.s (Rem.s Rem.z)))) | apply Rems.s (Rem.s (Rem.s (Rem.s (Rem.s (Rem.s Rem.z))))) | apply Rems.s (Rem.s (Rem.s (Rem.s (Rem.s (Rem.s (Rem.s Rem.z)))))) | apply Rems.s (Rem.s (Rem.s (Rem.s (Rem.s (Rem.s (Rem.s (Rem.s Rem.z))))))) | apply Rems.s (Rem.s (Rem.s (Rem.s (Rem.s (Rem.s (Rem.s (Rem.s (Rem.s Rem.z)))))))) | apply Rems.s (Rem.s (Rem.s (Rem.s (Rem.s (Rem.s (Rem.s (Rem.s (Rem.s (Rem.s Rem.z)))))))))))) | (exact K_again3 (pre := (fun (k : Nat) (p q : RowP) => k ≤ m ∧ (filterI k (fun i => flt hi (es.getD i 0))).length + p.junk.length = p.cap ∧ (filterI k (fun i => flt (es.getD i 0) lo)).length + q.junk.length = q.cap)) (Ei := (fun k p q => [(1, .float .f32 lo), (2, .float .f32 hi), (8, .slice (some ⟨p.b, 0, none⟩) (filterI k (fun i => flt hi (es.getD i 0))).length p.cap), (9, .slice (some ⟨q.b, 0, none⟩) (filterI k (fun i => flt (es.getD i 0) lo)).length q.cap), (14, .slice (some ⟨b3, 0 + 1, none⟩) m 16), (15, .int .i64 (m : Int)), (16, .int .i64 (k : Int))])) (Hi := (fun k p q => [(p.b, .cells (il (filterI k (fun i => flt hi (es.getD i 0))) ++ p.junk).toArray p.u (0, 0)), (q.b, .cells (il (filterI k (fun i => flt (es.getD i 0) lo)) ++ q.junk).toArray q.u (0, 0)), (b3, .cells (.int .i8 (m : Int) :: fl .f32 es).toArray 54 (0, 0))])) (μ := (fun k _ _ => m - k)) (k + 1) (RowP.mk b28 cap28 junk28 u28) q (by refine ⟨?_, ?_, ?_⟩ <;> (try simp only) <;> omega) (by omega) (by repeat (first | exact trivial | refine ⟨rfl, ?_⟩)) (by repeat (first | exact .z | apply Rems.s Rem.z | apply Rems.s (Rem.s Rem.z) | apply Rems.s (Rem.s (Rem.s Rem.z)) | apply Rems.s (Rem.s (Rem.s (Rem.s Rem.z))) | apply Rems.s (Rem.s (Rem.s (Rem.s (Rem.s Rem.z)))) | apply Rems.s (Rem.s (Rem.s (Rem.s (Rem.s (Rem.s Rem.z))))) | apply Rems.s (Rem.s (Rem.s (Rem.s (Rem.s (Rem.s (Rem.s Rem.z)))))) | apply Rems.s (Rem.s (Rem.s (Rem.s (Rem.s (Rem.s (Rem.s (Rem.s Rem.z))))))) | apply Rems.s (Rem.s (Rem.s (Rem.s (Rem.s (Rem.s (Rem.s (Rem.s (Rem.s Rem.z)))))))) | apply Rems.s (Rem.s (Rem.s (Rem.s (Rem.s (Rem.s (Rem.s (Rem.s (Rem.s (Rem.s Rem.z)))))))))))) | (exact K_again3 (pre := (fun (k : Nat) (p q : RowP) => k ≤ m ∧ (filterI k (fun i => flt hi (es.getD i 0))).length + p.junk.length = p.cap ∧ (filterI k (fun i => flt (es.getD i 0) lo)).length + q.junk.length = q.cap)) (Ei := (fun k p q => [(1, .float .f32 lo), (2, .float .f32 hi), (8, .slice (some ⟨p.b, 0, none⟩) (filterI k (fun i => flt hi (es.getD i 0))).length p.cap), (9, .slice (some ⟨q.b, 0, none⟩) (filterI k (fun i => flt (es.getD i 0) lo)).length q.cap), (14, .slice (some ⟨b3, 0 + 1, none⟩) m 16), (15, .int .i64 (m : Int)), (16, .int .i64 (k : Int))])) (Hi := (fun k p q => [(p.b, .cells (il (filterI k (fun i => flt hi (es.getD i 0))) ++ p.junk).toArray p.u (0, 0)), (q.b, .cells (il (filterI k (fun i => flt (es.getD i 0) lo)) ++ q.junk).toArray q.u (0, 0)), (b3, .cells (.int .i8 (m : Int) :: fl .f32 es).toArray 54 (0, 0))])) (μ := (fun k _ _ => m - k)) (k + 1) p (RowP.mk b36 cap36 junk36 u36) (by refine ⟨?_, ?_, ?_⟩ <;> (try simp only) <;> omega) (by omega) (by repeat (first | exact trivial | refine ⟨rfl, ?_⟩)) (by repeat (first | exact .z | apply Rems.s Rem.z | apply Rems.s (Rem.s Rem.z) | apply Rems.s (Rem.s (Rem.s Rem.z)) | apply Rems.s (Rem.s (Rem.s (Rem.s Rem.z))) | apply Rems.s (Rem.s (Rem.s (Rem.s (Rem.s Rem.z)))) | apply Rems.s (Rem.s (Rem.s (Rem.s (Rem.s (Rem.s Rem.z))))) | apply Rems.s (Rem.s (Rem.s (Rem.s (Rem.s (Rem.s (Rem.s Rem.z)))))) | apply Rems.s (Rem.s (Rem.s (Rem.s (Rem.s (Rem.s (Rem.s (Rem.s Rem.z))))))) | apply Rems.s (Rem.s (Rem.s (Rem.s (Rem.s (Rem.s (Rem.s (Rem.s (Rem.s Rem.z)))))))) | apply Rems.s (Rem.s (Rem.s (Rem.s (Rem.s (Rem.s (Rem.s (Rem.s (Rem.s (Rem.s Rem.z)))))))))))) | (exact K_again3 (pre := (fun (k : Nat) (p q : RowP) => k ≤ m ∧ (filterI k (fun i => flt hi (es.getD i 0))).length + p.junk.length = p.cap ∧ (filterI k (fun i => flt (es.getD i 0) lo)).length + q.junk.length = q.cap)) (Ei := (fun k p q => [(1, .float .f32 lo), (2, .float .f32 hi), (8, .slice (some ⟨p.b, 0, none⟩) (filterI k (fun i => flt hi (es.getD i 0))).length p.cap), (9, .slice (some ⟨q.b, 0, none⟩) (filterI k (fun i => flt (es.getD i 0) lo)).length q.cap), (14, .slice (some ⟨b3, 0 + 1, none⟩) m 16), (15, .int .i64 (m : Int)), (16, .int .i64 (k : Int))])) (Hi := (fun k p q => [(p.b, .cells (il (filterI k (fun i => flt hi (es.getD i 0))) ++ p.junk).toArray p.u (0, 0)), (q.b, .cells (il (filterI k (fun i => flt (es.getD i 0) lo)) ++ q.junk).toArray q.u (0, 0)), (b3, .cells (.int .i8 (m : Int) :: fl .f32 es).toArray 54 (0, 0))])) (μ := (fun k _ _ => m - k)) (k + 1) p q (by refine ⟨?_, ?_, ?_⟩ <;> (try simp only) <;> omega) (by omega) (by repeat (first | exact trivial | refine ⟨rfl, ?_⟩)) (by repeat (first | exact .z | apply Rems.s Rem.z | apply Rems.s (Rem.s Rem.z) | apply Rems.s (Rem.s (Rem.s Rem.z)) | apply Rems.s (Rem.s (Rem.s (Rem.s Rem.z))) | apply Rems.s (Rem.s (Rem.s (Rem.s (Rem.s Rem.z)))) | apply Rems.s (Rem.s (Rem.s (Rem.s (Rem.s (Rem.s Rem.z))))) | apply Rems.s (Rem.s (Rem.s (Rem.s (Rem.s (Rem.s (Rem.s Rem.z)))))) | apply Rems.s (Rem.s (Rem.s (Rem.s (Rem.s (Rem.s (Rem.s (Rem.s Rem.z))))))) | apply Rems.s (Rem.s (Rem.s (Rem.s (Rem.s (Rem.s (Rem.s (Rem.s (Rem.s Rem.z)))))))) | apply Rems.s (Rem.s (Rem.s (Rem.s (Rem.s (Rem.s (Rem.s (Rem.s (Rem.s (Rem.s Rem.z))))))))))))
      · first
        | (exfalso; omega)
        |
          refine r_assign rfl rfl rfl ?_
          refine R_nil ?_
          refine K_tn ?_
          refine K_cond_f rfl ?_
          refine K_seq ?_
          refine R_region ?_
          refine r_move rfl rfl rfl ?_
          refine r_move rfl rfl rfl ?_
          refine s_fcmp rfl rfl rfl rfl (fun _ _ => run_flt) (fun h32 => ?_) (fun h32 => ?_)
          · first
            | (exfalso; omega)
            |
              refine r_assign rfl rfl rfl ?_
              refine R_nil ?_
              refine K_tn ?_
              refine K_cond_t rfl ?_
              refine R_region ?_
              refine r_move rfl rfl rfl ?_
              refine r_move rfl rfl rfl ?_
              refine r_buildSlice sl_60 sz_2 zr_2 rfl rfl rfl rfl rfl (by first | rfl) (fun b35 => ?_)
              refine r_appendI sl_60 sl_60 sz_2 zr_2 rfl by_2 rfl rfl rfl rfl rfl (by first | exact .h .z | exact .h (.s .z) | exact .h (.s (.s .z)) | exact .h (.s (.s (.s .z))) | exact .h (.s (.s (.s (.s .z)))) | exact .h (.s (.s (.s (.s (.s .z))))) | exact .h (.s (.s (.s (.s (.s (.s .z)))))) | exact .h (.s (.s (.s (.s (.s (.s (.s .z))))))) | exact .h (.s (.s (.s (.s (.s (.s (.s (.s .z)))))))) | exact .x .z | exact .x (.s .z) | exact .x (.s (.s .z)) | exact .x (.s (.s (.s .z))) | exact .x (.s (.s (.s (.s .z)))) | exact .x (.s (.s (.s (.s (.s .z))))) | exact .x (.s (.s (.s (.s (.s (.s .z))))))) (by first | exact .z | exact (.s .z) | exact (.s (.s .z)) | exact (.s (.s (.s .z))) | exact (.s (.s (.s (.s .z)))) | exact (.s (.s (.s (.s (.s .z))))) | exact (.s (.s (.s (.s (.s (.s .z)))))) | exact (.s (.s (.s (.s (.s (.s (.s .z))))))) | exact (.s (.s (.s (.s (.s (.s (.s (.s .z)))))))) | exact (.s (.s (.s (.s (.s (.s (.s (.s (.s .z)))))))))) (by omega) (by omega) (by omega) (fun b36 cap36 junk36 u36 hj36 => ?_)
              refine r_assign rfl rfl rfl ?_
              refine R_nil ?_
              refine K_bn ?_
              refine K_bn ?_
              refine K_tn ?_
              refine R_region ?_
              first | refine r_addN rfl rfl rfl rfl (i64K (by omega) (by omega)) ?_ | refine r_add rfl rfl rfl rfl (i64K (by omega) (by omega)) ?_
              refine r_move rfl rfl rfl ?_
              refine R_nil ?_
              refine K_tn ?_
              first | (have hE := filterI_t (P := (fun i => flt hi (es.getD i 0))) (k := k) h24; have hEl := filterI_tl (P := (fun i => flt hi (es.getD i 0))) (k := k) h24; rw [hE, hEl]) | (have hE := filterI_f (P := (fun i => flt hi (es.getD i 0))) (k := k) h24; have hEl := congrArg List.length hE; rw [hE])
              first | (have hL := filterI_t (P := (fun i => flt (es.getD i 0) lo)) (k := k) h32; have hLl := filterI_tl (P := (fun i => flt (es.getD i 0) lo)) (k := k) h32; rw [hL, hLl]) | (have hL := filterI_f (P := (fun i => flt (es.getD i 0) lo)) (k := k) h32; have hLl := congrArg List.length hL; rw [hL]) | (have hL := filterI_f (P := (fun i => flt (es.getD i 0) lo)) (k := k) (hnb k (by omega) h24); have hLl := congrArg List.length hL; rw [hL])
              first | (exact K_again3 (pre := (fun (k : Nat) (p q : RowP) => k ≤ m ∧ (filterI k (fun i => flt hi (es.getD i 0))).length + p.junk.length = p.cap ∧ (filterI k (fun i => flt (es.getD i 0) lo)).length + q.junk.length = q.cap)) (Ei := (fun k p q => [(1, .float .f32 lo), (2, .float .f32 hi), (8, .slice (some ⟨p.b, 0, none⟩) (filterI k (fun i => flt hi (es.getD i 0))).length p.cap), (9, .slice (some ⟨q.b, 0, none⟩) (filterI k (fun i => flt (es.getD i 0) lo)).length q.cap), (14, .slice (some ⟨b3, 0 + 1, none⟩) m 16), (15, .int .i64 (m : Int)), (16, .int .i64 (k : Int))])) (Hi := (fun k p q => [(p.b, .cells (il (filterI k (fun i => flt hi (es.getD i 0))) ++ p.junk).toArray p.u (0, 0)), (q.b, .cells (il (filterI k (fun i => flt (es.getD i 0) lo)) ++ q.junk).toArray q.u (0, 0)), (b3, .cells (.int .i8 (m : Int) :: fl .f32 es).toArray 54 (0, 0))])) (μ := (fun k _ _ => m - k)) (k + 1) (RowP.mk b28 cap28 junk28 u28) (RowP.mk b36 cap36 junk36 u36) (by refine ⟨?_, ?_, ?_⟩ <;> (try simp only) <;> omega) (by omega) (by repeat (first | exact trivial | refine ⟨rfl, ?_⟩)) (by repeat (first | exact .z | apply Rems.s Rem.z | apply Rems.s (Rem.s Rem.z) | apply Rems.s (Rem.s (Rem.s Rem.z)) | apply Rems.s (Rem.s (Rem.s (Rem.s Rem.z))) | apply Rems.s (Rem.s (Rem.s (Rem.s (Rem.s Rem.z)))) | apply Rems.s (Rem.s (Rem.s (Rem.s (Rem.s (Rem.s Rem.z))))) | apply Rems.s (Rem.s (Rem.s (Rem.s (Rem.s (Rem.s (Rem.s Rem.z)))))) | apply Rems.s (Rem.s (Rem.s (Rem.s (Rem.s (Rem.s (Rem.s (Rem.s Rem.z))))))) | apply Rems.s (Rem.s (Rem.s (Rem.s (Rem.s (Rem.s (Rem.s (Rem.s (Rem.s Rem.z)))))))) | apply Rems.s (Rem.s (Rem.s (Rem.s (Rem.s (Rem.s (Rem.s (Rem.s (Rem.s (Rem.s Rem.z)))))))))))) | (exact K_again3 (pre := (fun (k : Nat) (p q : RowP) => k ≤ m ∧ (filterI k (fun i => flt hi (es.getD i 0))).length + p.junk.length = p.cap ∧ (filterI k (fun i => flt (es.getD i 0) lo)).length + q.junk.length = q.cap)) (Ei := (fun k p q => [(1, .float .f32 lo), (2, .float .f32 hi), (8, .slice (some ⟨p.b, 0, none⟩) (filterI k (fun i => flt hi (es.getD i 0))).length p.cap), (9, .slice (some ⟨q.b, 0, none⟩) (filterI k (fun i => flt (es.getD i 0) lo)).length q.cap), (14, .slice (some ⟨b3, 0 + 1, none⟩) m 16), (15, .int .i64 (m : Int)), (16, .int .i64 (k : Int))])) (Hi := (fun k p q => [(p.b, .cells (il (filterI k (fun i => flt hi (es.getD i 0))) ++ p.junk).toArray p.u (0, 0)), (q.b, .cells (il (filterI k (fun i => flt (es.getD i 0) lo)) ++ q.junk).toArray q.u (0, 0)), (b3, .cells (.int .i8 (m : Int) :: fl .f32 es).toArray 54 (0, 0))])) (μ := (fun k _ _ => m - k)) (k + 1) (RowP.mk b28 cap28 junk28 u28) q (by refine ⟨?_, ?_, ?_⟩ <;> (try simp only) <;> omega) (by omega) (by repeat (first | exact trivial | refine ⟨rfl, ?_⟩)) (by repeat (first | exact .z | apply Rems.s Rem.z | apply Rems.s (Rem.s Rem.z) | apply Rems.s (Rem.s (Rem.s Rem.z)) | apply Rems.s (Rem.s (Rem.s (Rem.s Rem.z))) | apply Rems.s (Rem.s (Rem.s (Rem.s (Rem.s Rem.z)))) | apply Rems.s (Rem.s (Rem.s (Rem.s (Rem.s (Rem.s Rem.z))))) | apply Rems.s (Rem.s (Rem.s (Rem.s (Rem.s (Rem.s (Rem.s Rem.z)))))) | apply Rems.s (Rem.s (Rem.s (Rem.s (Rem.s (Rem.s (Rem.s (Rem.s Rem.z))))))) | apply Rems.s (Rem.s (Rem.s (Rem.s (Rem.s (Rem.s (Rem.s (Rem.s (Rem.s Rem.z)))))))) | apply Rems.s (Rem.s (Rem.s (Rem.s (Rem.s (Rem.s (Rem.s (Rem.s (Rem.s (Rem.s Rem.z)))))))))))) | (exact K_again3 (pre := (fun (k : Nat) (p q : RowP) => k ≤ m ∧ (filterI k (fun i => flt hi (es.getD i 0))).length + p.junk.length = p.cap ∧ (filterI k (fun i => flt (es.getD i 0) lo)).length + q.junk.length = q.cap)) (Ei := (fun k p q => [(1, .float .f32 lo), (2, .float .f32 hi), (8, .slice (some ⟨p.b, 0, none⟩) (filterI k (fun i => flt hi (es.getD i 0))).length p.cap), (9, .slice (some ⟨q.b, 0, none⟩) (filterI k (fun i => flt (es.getD i 0) lo)).length q.cap), (14, .slice (some ⟨b3, 0 + 1, none⟩) m 16), (15, .int .i64 (m : Int)), (16, .int .i64 (k : Int))])) (Hi := (fun k p q => [(p.b, .cells (il (filterI k (fun i => flt hi (es.getD i 0))) ++ p.junk).toArray p.u (0, 0)), (q.b, .cells (il (filterI k (fun i => flt (es.getD i 0) lo)) ++ q.junk).toArray q.u (0, 0)), (b3, .cells (.int .i8 (m : Int) :: fl .f32 es).toArray 54 (0, 0))])) (μ := (fun k _ _ => m - k)) (k + 1) p (RowP.mk b36 cap36 junk36 u36) (by refine ⟨?_, ?_, ?_⟩ <;> (try simp only) <;> omega) (by omega) (by repeat (first | exact trivial | refine ⟨rfl, ?_⟩)) (by repeat (first | exact .z | apply Rems.s Rem.z | apply Rems.s (Rem.s Rem.z) | apply Rems.s (Rem.s (Rem.s Rem.z)) | apply Rems.s (Rem.s (Rem.s (Rem.s Rem.z))) | apply Rems.s (Rem.s (Rem.s (Rem.s (Rem.s Rem.z)))) | apply Rems.s (Rem.s (Rem.s (Rem.s (Rem.s (Rem.s Rem.z))))) | apply Rems.s (Rem.s (Rem.s (Rem.s (Rem.s (Rem.s (Rem.s Rem.z)))))) | apply Rems.s (Rem.s (Rem.s (Rem.s (Rem.s (Rem.s (Rem.s (Rem.s Rem.z))))))) | apply Rems.s (Rem.s (Rem.s (Rem.s (Rem.s (Rem.s (Rem.s (Rem.s (Rem.s Rem.z)))))))) | apply Rems.s (Rem.s (Rem.s (Rem.s (Rem.s (Rem.s (Rem.s (Rem.s (Rem.s (Rem.s Rem.z)))))))))))) | (exact K_again3 (pre := (fun (k : Nat) (p q : RowP) => k ≤ m ∧ (filterI k (fun i => flt hi (es.getD i 0))).length + p.junk.length = p.cap ∧ (filterI k (fun i => flt (es.getD i 0) lo)).length + q.junk.length = q.cap)) (Ei := (fun k p q => [(1, .float .f32 lo), (2, .float .f32 hi), (8, .slice (some ⟨p.b, 0, none⟩) (filterI k (fun i => flt hi (es.getD i 0))).length p.cap), (9, .slice (some ⟨q.b, 0, none⟩) (filterI k (fun i => flt (es.getD i 0) lo)).length q.cap), (14, .slice (some ⟨b3, 0 + 1, none⟩) m 16), (15, .int .i64 (m : Int)), (16, .int .i64 (k : Int))])) (Hi := (fun k p q => [(p.b, .cells (il (filterI k (fun i => flt hi (es.getD i 0))) ++ p.junk).toArray p.u (0, 0)), (q.b, .cells (il (filterI k (fun i => flt (es.getD i 0) lo)) ++ q.junk).toArray q.u (0, 0)), (b3, .cells (.int .i8 (m : Int) :: fl .f32 es).toArray 54 (0, 0))])) (μ := (fun k _ _ => m - k)) (k + 1) p q (by refine ⟨?_, ?_, ?_⟩ <;> (try simp only) <;> omega) (by omega) (by repeat (first | exact trivial | refine ⟨rfl, ?_⟩)) (by repeat (first | exact .z | apply Rems.s Rem.z | apply Rems.s (Rem.s Rem.z) | apply Rems.s (Rem.s (Rem.s Rem.z)) | apply Rems.s (Rem.s (Rem.s (Rem.s Rem.z))) | apply Rems.s (Rem.s (Rem.s (Rem.s (Rem.s Rem.z)))) | apply Rems.s (Rem.s (Rem.s (Rem.s (Rem.s (Rem.s Rem.z))))) | apply Rems.s (Rem.s (Rem.s (Rem.s (Rem.s (Rem.s (Rem.s Rem.z)))))) | apply Rems.s (Rem.s (Rem.s (Rem.s (Rem.s (Rem.s (Rem.s (Rem.s Rem.z))))))) | apply Rems.s (Rem.s (Rem.s (Rem.s (Rem.s (Rem.s (Rem.s (Rem.s (Rem.s Rem.z)))))))) | apply Rems.s (Rem.s (Rem.s (Rem.s (Rem.s (Rem.s (Rem.s (Rem.s (Rem.s (Rem.s Rem.z))))))))))))
          · first
            | (exfalso; omega)
            |
              refine r_assign rfl rfl rfl ?_
              refine R_nil ?_
              refine K_tn ?_
              refine K_cond_f rfl ?_
              refine K_skip ?_
              refine K_bn ?_
              refine K_bn ?_
              refine K_tn ?_
              refine R_region ?_
              first | refine r_addN rfl rfl rfl rfl (i64K (by omega) (by omega)) ?_ | refine r_add rfl rfl rfl rfl (i64K (by omega) (by omega)) ?_
              refine r_move rfl rfl rfl ?_
              refine R_nil ?_
              refine K_tn ?_
              first | (have hE := filterI_t (P := (fun i => flt hi (es.getD i 0))) (k := k) h24; have hEl := filterI_tl (P := (fun i => flt hi (es.getD i 0))) (k := k) h24; rw [hE, hEl]) | (have hE := filterI_f (P := (fun i => flt hi (es.getD i 0))) (k := k) h24; have hEl := congrArg List.length hE; rw [hE])
              first | (have hL := filterI_t (P := (fun i => flt (es.getD i 0) lo)) (k := k) h32; have hLl := filterI_tl (P := (fun i => flt (es.getD i 0) lo)) (k := k) h32; rw [hL, hLl]) | (have hL := filterI_f (P := (fun i => flt (es.getD i 0) lo)) (k := k) h32; have hLl := congrArg List.length hL; rw [hL]) | (have hL := filterI_f (P := (fun i => flt (es.getD i 0) lo)) (k := k) (hnb k (by omega) h24); have hLl := congrArg List.length hL; rw [hL])
              first | (exact K_again3 (pre := (fun (k : Nat) (p q : RowP) => k ≤ m ∧ (filterI k (fun i => flt hi (es.getD i 0))).length + p.junk.length = p.cap ∧ (filterI k (fun i => flt (es.getD i 0) lo)).length + q.junk.length = q.cap)) (Ei := (fun k p q => [(1, .float .f32 lo), (2, .float .f32 hi), (8, .slice (some ⟨p.b, 0, none⟩) (filterI k (fun i => flt hi (es.getD i 0))).length p.cap), (9, .slice (some ⟨q.b, 0, none⟩) (filterI k (fun i => flt (es.getD i 0) lo)).length q.cap), (14, .slice (some ⟨b3, 0 + 1, none⟩) m 16), (15, .int .i64 (m : Int)), (16, .int .i64 (k : Int))])) (Hi := (fun k p q => [(p.b, .cells (il (filterI k (fun i => flt hi (es.getD i 0))) ++ p.junk).toArray p.u (0, 0)), (q.b, .cells (il (filterI k (fun i => flt (es.getD i 0) lo)) ++ q.junk).toArray q.u (0, 0)), (b3, .cells (.int .i8 (m : Int) :: fl .f32 es).toArray 54 (0, 0))])) (μ := (fun k _ _ => m - k)) (k + 1) (RowP.mk b28 cap28 junk28 u28) (RowP.mk b36 cap36 junk36 u36) (by refine ⟨?_, ?_, ?_⟩ <;> (try simp only) <;> omega) (by omega) (by repeat (first | exact trivial | refine ⟨rfl, ?_⟩)) (by repeat (first | exact .z | apply Rems.s Rem.z | apply Rems.s (Rem.s Rem.z) | apply Rems.s (Rem.s (Rem.s Rem.z)) | apply Rems.s (Rem.s (Rem.s (Rem.s Rem.z))) | apply Rems.s (Rem.s (Rem.s (Rem.s (Rem.s Rem.z)))) | apply Rems.s (Rem.s (Rem.s (Rem.s (Rem.s (Rem.s Rem.z))))) | apply Rems.s (Rem.s (Rem.s (Rem.s (Rem.s (Rem.s (Rem.s Rem.z)))))) | apply Rems.s (Rem.s (Rem.s (Rem.s (Rem.s (Rem.s (Rem.s (Rem.s Rem.z))))))) | apply Rems.s (Rem.s (Rem.s (Rem.s (Rem.s (Rem.s (Rem.s (Rem.s (Rem.s Rem.z)))))))) | apply Rems.s (Rem.s (Rem.s (Rem.s (Rem.s (Rem.s (Rem.s (Rem.s (Rem.s (Rem.s Rem.z)))))))))))) | (exact K_again3 (pre := (fun (k : Nat) (p q : RowP) => k ≤ m ∧ (filterI k (fun i => flt hi (es.getD i 0))).length + p.junk.length = p.cap ∧ (filterI k (fun i => flt (es.getD i 0) lo)).length + q.junk.length = q.cap)) (Ei := (fun k p q => [(1, .float .f32 lo), (2, .float .f32 hi), (8, .slice (some ⟨p.b, 0, none⟩) (filterI k (fun i => flt hi (es.getD i 0))).length p.cap), (9, .slice (some ⟨q.b, 0, none⟩) (filterI k (fun i => flt (es.getD i 0) lo)).length q.cap), (14, .slice (some ⟨b3, 0 + 1, none⟩) m 16), (15, .int .i64 (m : Int)), (16, .int .i64 (k : Int))])) (Hi := (fun k p q => [(p.b, .cells (il (filterI k (fun i => flt hi (es.getD i 0))) ++ p.junk).toArray p.u (0, 0)), (q.b, .cells (il (filterI k (fun i => flt (es.getD i 0) lo)) ++ q.junk).toArray q.u (0, 0)), (b3, .cells (.int .i8 (m : Int) :: fl .f32 es).toArray 54 (0, 0))])) (μ := (fun k _ _ => m - k)) (k + 1) (RowP.mk b28 cap28 junk28 u28) q (by refine ⟨?_, ?_, ?_⟩ <;> (try simp only) <;> omega) (by omega) (by repeat (first | exact trivial | refine ⟨rfl, ?_⟩)) (by repeat (first | exact .z | apply Rems.s Rem.z | apply Rems.s (Rem.s Rem.z) | apply Rems.s (Rem.s (Rem.s Rem.z)) | apply Rems.s (Rem.s (Rem.s (Rem.s Rem.z))) | apply Rems.s (Rem.s (Rem.s (Rem.s (Rem.s Rem.z)))) | apply Rems.s (Rem.s (Rem.s (Rem.s (Rem.s (Rem.s Rem.z))))) | apply Rems.s (Rem.s (Rem.s (Rem.s (Rem.s (Rem.s (Rem.s Rem.z)))))) | apply Rems.s (Rem.s (Rem.s (Rem.s (Rem.s (Rem.s (Rem.s (Rem.s Rem.z))))))) | apply Rems.s (Rem.s (Rem.s (Rem.s (Rem.s (Rem.s (Rem.s (Rem.s (Rem.s Rem.z)))))))) | apply Rems.s (Rem.s (Rem.s (Rem.s (Rem.s (Rem.s (Rem.s (Rem.s (Rem.s (Rem.s Rem.z)))))))))))) | (exact K_again3 (pre := (fun (k : Nat) (p q : RowP) => k ≤ m ∧ (filterI k (fun i => flt hi (es.getD i 0))).length + p.junk.length = p.cap ∧ (filterI k (fun i => flt (es.getD i 0) lo)).length + q.junk.length = q.cap)) (Ei := (fun k p q => [(1, .float .f32 lo), (2, .float .f32 hi), (8, .slice (some ⟨p.b, 0, none⟩) (filterI k (fun i => flt hi (es.getD i 0))).length p.cap), (9, .slice (some ⟨q.b, 0, none⟩) (filterI k (fun i => flt (es.getD i 0) lo)).length q.cap), (14, .slice (some ⟨b3, 0 + 1, none⟩) m 16), (15, .int .i64 (m : Int)), (16, .int .i64 (k : Int))])) (Hi := (fun k p q => [(p.b, .cells (il (filterI k (fun i => flt hi (es.getD i 0))) ++ p.junk).toArray p.u (0, 0)), (q.b, .cells (il (filterI k (fun i => flt (es.getD i 0) lo)) ++ q.junk).toArray q.u (0, 0)), (b3, .cells (.int .i8 (m : Int) :: fl .f32 es).toArray 54 (0, 0))])) (μ := (fun k _ _ => m - k)) (k + 1) p (RowP.mk b36 cap36 junk36 u36) (by refine ⟨?_, ?_, ?_⟩ <;> (try simp only) <;> omega) (by omega) (by repeat (first | exact trivial | refine ⟨rfl, ?_⟩)) (by repeat (first | exact .z | apply Rems.s Rem.z | apply Rems.s (Rem.s Rem.z) | apply Rems.s (Rem.s (Rem.s Rem.z)) | apply Rems.s (Rem.s (Rem.s (Rem.s Rem.z))) | apply Rems.s (Rem.s (Rem.s (Rem.s (Rem.s Rem.z)))) | apply Rems.s (Rem.s (Rem.s (Rem.s (Rem.s (Rem.s Rem.z))))) | apply Rems.s (Rem.s (Rem.s (Rem.s (Rem.s (Rem.s (Rem.s Rem.z)))))) | apply Rems.s (Rem.s (Rem.s (Rem.s (Rem.s (Rem.s (Rem.s (Rem.s Rem.z))))))) | apply Rems.s (Rem.s (Rem.s (Rem.s (Rem.s (Rem.s (Rem.s (Rem.s (Rem.s Rem.z)))))))) | apply Rems.s (Rem.s (Rem.s (Rem.s (Rem.s (Rem.s (Rem.s (Rem.s (Rem.s (Rem.s Rem.z)))))))))))) | (exact K_again3 (pre := (fun (k : Nat) (p q : RowP) => k ≤ m ∧ (filterI k (fun i => flt hi (es.getD i 0))).length + p.junk.length = p.cap ∧ (filterI k (fun i => flt (es.getD i 0) lo)).length + q.junk.length = q.cap)) (Ei := (fun k p q => [(1, .float .f32 lo), (2, .float .f32 hi), (8, .slice (some ⟨p.b, 0, none⟩) (filterI k (fun i => flt hi (es.getD i 0))).length p.cap), (9, .slice (some ⟨q.b, 0, none⟩) (filterI k (fun i => flt (es.getD i 0) lo)).length q.cap), (14, .slice (some ⟨b3, 0 + 1, none⟩) m 16), (15, .int .i64 (m : Int)), (16, .int .i64 (k : Int))])) (Hi := (fun k p q => [(p.b, .cells (il (filterI k (fun i => flt hi (es.getD i 0))) ++ p.junk).toArray p.u (0, 0)), (q.b, .cells (il (filterI k (fun i => flt (es.getD i 0) lo)) ++ q.junk).toArray q.u (0, 0)), (b3, .cells (.int .i8 (m : Int) :: fl .f32 es).toArray 54 (0, 0))])) (μ := (fun k _ _ => m - k)) (k + 1) p q (by refine ⟨?_, ?_, ?_⟩ <;> (try simp only) <;> omega) (by omega) (by repeat (first | exact trivial | refine ⟨rfl, ?_⟩)) (by repeat (first | exact .z | apply Rems.s Rem.z | apply Rems.s (Rem.s Rem.z) | apply Rems.s (Rem.s (Rem.s Rem.z)) | apply Rems.s (Rem.s (Rem.s (Rem.s Rem.z))) | apply Rems.s (Rem.s (Rem.s (Rem.s (Rem.s Rem.z)))) | apply Rems.s (Rem.s (Rem.s (Rem.s (Rem.s (Rem.s Rem.z))))) | apply Rems.s (Rem.s (Rem.s (Rem.s (Rem.s (Rem.s (Rem.s Rem.z)))))) | apply Rems.s (Rem.s (Rem.s (Rem.s (Rem.s (Rem.s (Rem.s (Rem.s Rem.z))))))) | apply Rems.s (Rem.s (Rem.s (Rem.s (Rem.s (Rem.s (Rem.s (Rem.s (Rem.s Rem.z)))))))) | apply Rems.s (Rem.s (Rem.s (Rem.s (Rem.s (Rem.s (Rem.s (Rem.s (Rem.s (Rem.s Rem.z))))))))))))
  · first
    | (exfalso; omega)
    |
      refine R_nil ?_
      refine K_tn ?_
      refine K_seq ?_
      refine K_cond_f rfl ?_
      refine K_exit ?_
      refine K_te ?_
      refine K_te ?_
      refine K_be ?_
      refine K_tn ?_
      refine K_seq ?_
      refine R_region ?_
      have hkn : k = m := by omega
      subst hkn
      refine r_move rfl rfl rfl ?_
      refine r_move rfl rfl rfl ?_
      refine r_assign rfl rfl rfl ?_
      refine r_assign rfl rfl rfl ?_
      refine R_nil ?_
      refine K_tn ?_
      refine K_ret ?_
      refine K_done (H' := [(p.b, .cells (il (filterI k (fun i => flt hi (es.getD i 0))) ++ p.junk).toArray p.u (0, 0)), (q.b, .cells (il (filterI k (fun i => flt (es.getD i 0) lo)) ++ q.junk).toArray q.u (0, 0))]) rfl rfl (.s (.tmp rfl) (.s (.tmp rfl) .z)) (by repeat (first | exact .z | apply Rems.s Rem.z | apply Rems.s (Rem.s Rem.z) | apply Rems.s (Rem.s (Rem.s Rem.z)) | apply Rems.s (Rem.s (Rem.s (Rem.s Rem.z))) | apply Rems.s (Rem.s (Rem.s (Rem.s (Rem.s Rem.z)))) | apply Rems.s (Rem.s (Rem.s (Rem.s (Rem.s (Rem.s Rem.z))))) | apply Rems.s (Rem.s (Rem.s (Rem.s (Rem.s (Rem.s (Rem.s Rem.z)))))) | apply Rems.s (Rem.s (Rem.s (Rem.s (Rem.s (Rem.s (Rem.s (Rem.s Rem.z))))))) | apply Rems.s (Rem.s (Rem.s (Rem.s (Rem.s (Rem.s (Rem.s (Rem.s (Rem.s Rem.z)))))))) | apply Rems.s (Rem.s (Rem.s (Rem.s (Rem.s (Rem.s (Rem.s (Rem.s (Rem.s (Rem.s Rem.z))))))))))) ?_
      exact ⟨p, q, rfl, hq1, hq2, rfl⟩

set_option maxRecDepth 20000 in
theorem spec_EL_ok (n : Nat) (rs : List Nat) (hl : rs.length = 16) (hn : n ≤ 16) (m : Nat) (fs : List Nat) (hf : fs.length = 16) (hm : m ≤ 16) (c g lo hi : Nat) (hok : okC n rs m fs [c, g, lo, hi] = true) (hlh : fle lo hi = true) : Go.Sl.Spec Try.prog 49 [.agg (.int .i8 (n : Int) :: fl .f32 rs).toArray, .float .f32 c, .float .f32 g, .agg (.int .i8 (m : Int) :: fl .f32 fs).toArray, .float .f32 lo, .float .f32 hi] [] [] (RowIIC (filterI m (isEarly (arrF n rs c g) fs hi)) (filterI m (isLate (arrF n rs c g) fs lo)) 0) := by
  refine spec_of Try.func49 rfl Try.ntmps49 rfl (fun w0 => ?_)
  have hn2 : -128 ≤ (n : Int) ∧ (n : Int) ≤ 127 := by omega
  have hm2 : -128 ≤ (m : Int) ∧ (m : Int) ≤ 127 := by omega
  obtain ⟨hvm, hv, hc, hg, hpl, hph⟩ := okC_4 hok
  have hc0 := (crC_ok hok).1
  refine K_seq ?_
  refine R_region ?_
  refine r_box rfl rfl rfl rfl (fun b6 => ?_)
  refine r_box rfl rfl rfl rfl (fun b9 => ?_)
  refine r_assign rfl rfl rfl ?_
  refine r_assign rfl rfl rfl ?_
  refine r_assign rfl rfl rfl ?_
  refine R_nil ?_
  refine K_tn ?_
  refine K_seq ?_
  refine K_seq ?_
  refine R_region ?_
  refine r_move rfl rfl rfl ?_
  refine r_move rfl rfl rfl ?_
  refine r_move rfl rfl rfl ?_
  refine r_move rfl rfl rfl ?_
  refine r_buildSlice sl_47 sz_23 zr_23 rfl rfl rfl rfl rfl (by first | rfl) (fun b22 => ?_)
  refine r_move rfl rfl rfl ?_
  refine r_move rfl rfl rfl ?_
  refine v_fcmp rfl rfl rfl rfl (fun _ _ => run_fle) ?_
  refine r_callV cb_82 rfl rfl rfl rfl rfl (l04Crate _ n rs hl (by first | assumption | omega) _ _ _ m fs hf (by first | assumption | omega) _ _ _ _ _ _ _ _ _ [c, g, lo, hi] rfl (fun i hi => gF0 (by simpa using hi)) (fle lo hi) (by simp)) (by repeat (first | exact .z | refine .s (.h .z) ?_ | refine .s (.h (.s .z)) ?_ | refine .s (.h (.s (.s .z))) ?_ | refine .s (.h (.s (.s (.s .z)))) ?_ | refine .s (.h (.s (.s (.s (.s .z))))) ?_ | refine .s (.h (.s (.s (.s (.s (.s .z)))))) ?_ | refine .s (.h (.s (.s (.s (.s (.s (.s .z))))))) ?_ | refine .s (.h (.s (.s (.s (.s (.s (.s (.s .z)))))))) ?_ | refine .s (.h (.s (.s (.s (.s (.s (.s (.s (.s .z))))))))) ?_ | refine .s (.x .z) ?_ | refine .s (.x (.s .z)) ?_ | refine .s (.x (.s (.s .z))) ?_ | refine .s (.x (.s (.s (.s .z)))) ?_ | refine .s (.x (.s (.s (.s (.s .z))))) ?_ | refine .s (.x (.s (.s (.s (.s (.s .z)))))) ?_ | refine .s (.x (.s (.s (.s (.s (.s (.s .z))))))) ?_)) ?_
  refine r_assign rfl rfl rfl ?_
  refine R_nil ?_
  refine K_tn ?_
  refine K_seq ?_
  refine R_region ?_
  refine r_move rfl rfl rfl ?_
  refine s_neq rfl rfl rfl rfl (fun h28 => ?_) (fun h28 => ?_)
  · first
    | (exfalso; first | (rw [hlh] at *; simp_all; done) | omega)
    |
      refine R_nil ?_
      refine K_tn ?_
      refine K_cond_t rfl ?_
      refine K_seq ?_
      refine R_region ?_
      refine r_buildSlice sl_60 sz_2 zr_2 rfl rfl rfl rfl rfl (by first | rfl) (fun b29 => ?_)
      refine r_buildSlice sl_60 sz_2 zr_2 rfl rfl rfl rfl rfl (by first | rfl) (fun b30 => ?_)
      refine r_move rfl rfl rfl ?_
      refine r_assign rfl rfl rfl ?_
      refine r_assign rfl rfl rfl ?_
      refine r_assign rfl rfl rfl ?_
      refine R_nil ?_
      refine K_tn ?_
      refine K_ret ?_
      refine K_tr ?_
      refine K_done (H' := [(p.b, .cells (il (filterI m (isEarly (arrF n rs c g) fs hi)) ++ p.junk).toArray p.u (0, 0)), (q.b, .cells (il (filterI m (isLate (arrF n rs c g) fs lo)) ++ q.junk).toArray q.u (0, 0))]) rfl rfl (.s (.tmp rfl) (.s (.tmp rfl) (.s (.tmp rfl) .z))) (by repeat (first | exact .z | apply Rems.s Rem.z | apply Rems.s (Rem.s Rem.z) | apply Rems.s (Rem.s (Rem.s Rem.z)) | apply Rems.s (Rem.s (Rem.s (Rem.s Rem.z))) | apply Rems.s (Rem.s (Rem.s (Rem.s (Rem.s Rem.z)))) | apply Rems.s (Rem.s (Rem.s (Rem.s (Rem.s (Rem.s Rem.z))))) | apply Rems.s (Rem.s (Rem.s (Rem.s (Rem.s (Rem.s (Rem.s Rem.z)))))) | apply Rems.s (Rem.s (Rem.s (Rem.s (Rem.s (Rem.s (Rem.s (Rem.s Rem.z))))))) | apply Rems.s (Rem.s (Rem.s (Rem.s (Rem.s (Rem.s (Rem.s (Rem.s (Rem.s Rem.z)))))))) | apply Rems.s (Rem.s (Rem.s (Rem.s (Rem.s (Rem.s (Rem.s (Rem.s (Rem.s (Rem.s Rem.z))))))))))) ?_
      exact ⟨p, q, rfl, hq1, hq2, rfl⟩
  · first
    | (exfalso; first | (rw [hlh] at *; simp_all; done) | omega)
    |
      refine R_nil ?_
      refine K_tn ?_
      refine K_cond_f rfl ?_
      refine K_skip ?_
      refine K_tn ?_
      refine K_seq ?_
      refine R_region ?_
      refine r_move rfl rfl rfl ?_
      refine r_move rfl rfl rfl ?_
      refine r_move rfl rfl rfl ?_
      refine r_move rfl rfl rfl ?_
      refine r_callR cb_85 rfl rfl rfl rfl rfl (l04Sorted _ n rs hl hn _ _ _ m fs hf hm _ _ c g lo hi hv hc hg hvm) (by repeat (first | exact .z | refine .s (.h .z) ?_ | refine .s (.h (.s .z)) ?_ | refine .s (.h (.s (.s .z))) ?_ | refine .s (.h (.s (.s (.s .z)))) ?_ | refine .s (.h (.s (.s (.s (.s .z))))) ?_ | refine .s (.h (.s (.s (.s (.s (.s .z)))))) ?_ | refine .s (.h (.s (.s (.s (.s (.s (.s .z))))))) ?_ | refine .s (.h (.s (.s (.s (.s (.s (.s (.s .z)))))))) ?_ | refine .s (.h (.s (.s (.s (.s (.s (.s (.s (.s .z))))))))) ?_ | refine .s (.x .z) ?_ | refine .s (.x (.s .z)) ?_ | refine .s (.x (.s (.s .z))) ?_ | refine .s (.x (.s (.s (.s .z)))) ?_ | refine .s (.x (.s (.s (.s (.s .z))))) ?_ | refine .s (.x (.s (.s (.s (.s (.s .z)))))) ?_ | refine .s (.x (.s (.s (.s (.s (.s (.s .z))))))) ?_)) ?_
      rintro _ _ ⟨p, q, rfl, hq1, hq2, rfl⟩
      refine r_move rfl rfl rfl ?_
      refine r_extract rfl rfl rfl rfl ?_
      refine r_extract rfl rfl rfl rfl ?_
      refine r_assign rfl rfl rfl ?_
      refine r_assign rfl rfl rfl ?_
      refine R_nil ?_
      refine K_tn ?_
      refine K_seq ?_
      refine R_region ?_
      refine r_move rfl rfl rfl ?_
      refine r_move rfl rfl rfl ?_
      refine r_assign rfl rfl rfl ?_
      refine r_assign rfl rfl rfl ?_
      refine r_assign rfl rfl rfl ?_
      refine R_nil ?_
      refine K_tn ?_
      refine K_ret ?_
      refine K_done (H' := [(p.b, .cells (il (filterI m (isEarly (arrF n rs c g) fs hi)) ++ p.junk).toArray p.u (0, 0)), (q.b, .cells (il (filterI m (isLate (arrF n rs c g) fs lo)) ++ q.junk).toArray q.u (0, 0))]) rfl rfl (.s (.tmp rfl) (.s (.tmp rfl) (.s (.tmp rfl) .z))) (by repeat (first | exact .z | apply Rems.s Rem.z | apply Rems.s (Rem.s Rem.z) | apply Rems.s (Rem.s (Rem.s Rem.z)) | apply Rems.s (Rem.s (Rem.s (Rem.s Rem.z))) | apply Rems.s (Rem.s (Rem.s (Rem.s (Rem.s Rem.z)))) | apply Rems.s (Rem.s (Rem.s (Rem.s (Rem.s (Rem.s Rem.z))))) | apply Rems.s (Rem.s (Rem.s (Rem.s (Rem.s (Rem.s (Rem.s Rem.z)))))) | apply Rems.s (Rem.s (Rem.s (Rem.s (Rem.s (Rem.s (Rem.s (Rem.s Rem.z))))))) | apply Rems.s (Rem.s (Rem.s (Rem.s (Rem.s (Rem.s (Rem.s (Rem.s (Rem.s Rem.z)))))))) | apply Rems.s (Rem.s (Rem.s (Rem.s (Rem.s (Rem.s (Rem.s (Rem.s (Rem.s (Rem.s Rem.z))))))))))) ?_
      exact ⟨p, q, rfl, hq1, hq2, rfl⟩

set_option maxRecDepth 20000 in
theorem spec_EL_no (n : Int) (rs : List Nat) (hl : rs.length = 16) (hn : -128 ≤ n ∧ n ≤ 127) (m : Int) (fs : List Nat) (hf : fs.length = 16) (hm : -128 ≤ m ∧ m ≤ 127) (c g lo hi : Nat) (hno : (okC n rs m fs [c, g, lo, hi] && fle lo hi) = false) : Go.Sl.Spec Try.prog 49 [.agg (.int .i8 n :: fl .f32 rs).toArray, .float .f32 c, .float .f32 g, .agg (.int .i8 m :: fl .f32 fs).toArray, .float .f32 lo, .float .f32 hi] [] [] (RowIIC [] [] (crC n rs m fs [c, g, lo, hi] (fle lo hi))) := by
  refine spec_of Try.func49 rfl Try.ntmps49 rfl (fun w0 => ?_)
  refine K_seq ?_
  refine R_region ?_
  refine r_box rfl rfl rfl rfl (fun b6 => ?_)
  refine r_box rfl rfl rfl rfl (fun b9 => ?_)
  refine r_assign rfl rfl rfl ?_
  refine r_assign rfl rfl rfl ?_
  refine r_assign rfl rfl rfl ?_
  refine R_nil ?_
  refine K_tn ?_
  refine K_seq ?_
  refine K_seq ?_
  refine R_region ?_
  refine r_move rfl rfl rfl ?_
  refine r_move rfl rfl rfl ?_
  refine r_move rfl rfl rfl ?_
  refine r_move rfl rfl rfl ?_
  refine r_buildSlice sl_47 sz_23 zr_23 rfl rfl rfl rfl rfl (by first | rfl) (fun b22 => ?_)
  refine r_move rfl rfl rfl ?_
  refine r_move rfl rfl rfl ?_
  refine v_fcmp rfl rfl rfl rfl (fun _ _ => run_fle) ?_
  refine r_callV cb_82 rfl rfl rfl rfl rfl (l04Crate _ n rs hl (by first | assumption | omega) _ _ _ m fs hf (by first | assumption | omega) _ _ _ _ _ _ _ _ _ [c, g, lo, hi] rfl (fun i hi => gF0 (by simpa using hi)) (fle lo hi) (by simp)) (by repeat (first | exact .z | refine .s (.h .z) ?_ | refine .s (.h (.s .z)) ?_ | refine .s (.h (.s (.s .z))) ?_ | refine .s (.h (.s (.s (.s .z)))) ?_ | refine .s (.h (.s (.s (.s (.s .z))))) ?_ | refine .s (.h (.s (.s (.s (.s (.s .z)))))) ?_ | refine .s (.h (.s (.s (.s (.s (.s (.s .z))))))) ?_ | refine .s (.h (.s (.s (.s (.s (.s (.s (.s .z)))))))) ?_ | refine .s (.h (.s (.s (.s (.s (.s (.s (.s (.s .z))))))))) ?_ | refine .s (.x .z) ?_ | refine .s (.x (.s .z)) ?_ | refine .s (.x (.s (.s .z))) ?_ | refine .s (.x (.s (.s (.s .z)))) ?_ | refine .s (.x (.s (.s (.s (.s .z))))) ?_ | refine .s (.x (.s (.s (.s (.s (.s .z)))))) ?_ | refine .s (.x (.s (.s (.s (.s (.s (.s .z))))))) ?_)) ?_
  refine r_assign rfl rfl rfl ?_
  refine R_nil ?_
  refine K_tn ?_
  refine K_seq ?_
  refine R_region ?_
  refine r_move rfl rfl rfl ?_
  refine s_neq rfl rfl rfl rfl (fun h28 => ?_) (fun h28 => ?_)
  · first
    | (exfalso; rw [crC_fine] at h28; simp_all; done)
    |
      refine R_nil ?_
      refine K_tn ?_
      refine K_cond_t rfl ?_
      refine K_seq ?_
      refine R_region ?_
      refine r_buildSlice sl_60 sz_2 zr_2 rfl rfl rfl rfl rfl (by first | rfl) (fun b29 => ?_)
      refine r_buildSlice sl_60 sz_2 zr_2 rfl rfl rfl rfl rfl (by first | rfl) (fun b30 => ?_)
      refine r_move rfl rfl rfl ?_
      refine r_assign rfl rfl rfl ?_
      refine r_assign rfl rfl rfl ?_
      refine r_assign rfl rfl rfl ?_
      refine R_nil ?_
      refine K_tn ?_
      refine K_ret ?_
      refine K_tr ?_
      refine K_done (H' := [(b29, .cells [].toArray 2 (0, 0)), (b30, .cells [].toArray 2 (0, 0))]) rfl rfl (.s (.tmp rfl) (.s (.tmp rfl) (.s (.tmp rfl) .z))) (by repeat (first | exact .z | apply Rems.s Rem.z | apply Rems.s (Rem.s Rem.z) | apply Rems.s (Rem.s (Rem.s Rem.z)) | apply Rems.s (Rem.s (Rem.s (Rem.s Rem.z))) | apply Rems.s (Rem.s (Rem.s (Rem.s (Rem.s Rem.z)))) | apply Rems.s (Rem.s (Rem.s (Rem.s (Rem.s (Rem.s Rem.z))))) | apply Rems.s (Rem.s (Rem.s (Rem.s (Rem.s (Rem.s (Rem.s Rem.z)))))) | apply Rems.s (Rem.s (Rem.s (Rem.s (Rem.s (Rem.s (Rem.s (Rem.s Rem.z))))))) | apply Rems.s (Rem.s (Rem.s (Rem.s (Rem.s (Rem.s (Rem.s (Rem.s (Rem.s Rem.z)))))))) | apply Rems.s (Rem.s (Rem.s (Rem.s (Rem.s (Rem.s (Rem.s (Rem.s (Rem.s (Rem.s Rem.z))))))))))) ?_
      exact ⟨⟨b29, 0, [], 2⟩, ⟨b30, 0, [], 2⟩, rfl, rfl, rfl, rfl⟩
  · first
    | (exfalso; rw [crC_fine] at h28; simp_all; done)
    |
      refine R_nil ?_
      refine K_tn ?_
      refine K_cond_f rfl ?_
      refine K_skip ?_
      refine K_tn ?_
      refine K_seq ?_
      refine R_region ?_
      refine r_move rfl rfl rfl ?_
      refine r_move rfl rfl rfl ?_
      refine r_move rfl rfl rfl ?_
      refine r_move rfl rfl rfl ?_
      refine r_callV cb_85 rfl rfl rfl rfl rfl (absurd rfl rfl) (by repeat (first | exact .z | refine .s (.h .z) ?_ | refine .s (.h (.s .z)) ?_ | refine .s (.h (.s (.s .z))) ?_ | refine .s (.h (.s (.s (.s .z)))) ?_ | refine .s (.h (.s (.s (.s (.s .z))))) ?_ | refine .s (.h (.s (.s (.s (.s (.s .z)))))) ?_ | refine .s (.h (.s (.s (.s (.s (.s (.s .z))))))) ?_ | refine .s (.h (.s (.s (.s (.s (.s (.s (.s .z)))))))) ?_ | refine .s (.h (.s (.s (.s (.s (.s (.s (.s (.s .z))))))))) ?_ | refine .s (.x .z) ?_ | refine .s (.x (.s .z)) ?_ | refine .s (.x (.s (.s .z))) ?_ | refine .s (.x (.s (.s (.s .z)))) ?_ | refine .s (.x (.s (.s (.s (.s .z))))) ?_ | refine .s (.x (.s (.s (.s (.s (.s .z)))))) ?_ | refine .s (.x (.s (.s (.s (.s (.s (.s .z))))))) ?_)) ?_
      refine r_move rfl rfl rfl ?_
      refine r_extract rfl rfl rfl rfl ?_
      refine r_extract rfl rfl rfl rfl ?_
      refine r_assign rfl rfl rfl ?_
      refine r_assign rfl rfl rfl ?_
      refine R_nil ?_
      refine K_tn ?_
      refine K_seq ?_
      refine R_region ?_
      refine r_move rfl rfl rfl ?_
      refine r_move rfl rfl rfl ?_
      refine r_assign rfl rfl rfl ?_
      refine r_assign rfl rfl rfl ?_
      refine r_assign rfl rfl rfl ?_
      refine R_nil ?_
      refine K_tn ?_
      refine K_ret ?_
      refine K_done (H' := [(b29, .cells [].toArray 2 (0, 0)), (b30, .cells [].toArray 2 (0, 0))]) rfl rfl (.s (.tmp rfl) (.s (.tmp rfl) (.s (.tmp rfl) .z))) (by repeat (first | exact .z | apply Rems.s Rem.z | apply Rems.s (Rem.s Rem.z) | apply Rems.s (Rem.s (Rem.s Rem.z)) | apply Rems.s (Rem.s (Rem.s (Rem.s Rem.z))) | apply Rems.s (Rem.s (Rem.s (Rem.s (Rem.s Rem.z)))) | apply Rems.s (Rem.s (Rem.s (Rem.s (Rem.s (Rem.s Rem.z))))) | apply Rems.s (Rem.s (Rem.s (Rem.s (Rem.s (Rem.s (Rem.s Rem.z)))))) | apply Rems.s (Rem.s (Rem.s (Rem.s (Rem.s (Rem.s (Rem.s (Rem.s Rem.z))))))) | apply Rems.s (Rem.s (Rem.s (Rem.s (Rem.s (Rem.s (Rem.s (Rem.s (Rem.s Rem.z)))))))) | apply Rems.s (Rem.s (Rem.s (Rem.s (Rem.s (Rem.s (Rem.s (Rem.s (Rem.s (Rem.s Rem.z))))))))))) ?_
      exact ⟨⟨b29, 0, [], 2⟩, ⟨b30, 0, [], 2⟩, rfl, rfl, rfl, rfl⟩

theorem earlyAndLate2 (n : Nat) (rs : List Nat) (hl : rs.length = 16) (hn : n ≤ 16) (m : Nat) (fs : List Nat) (hf : fs.length = 16) (hm : m ≤ 16) (c g lo hi : Nat) (hok : okC n rs m fs [c, g, lo, hi] = true) (hlh : fle lo hi = true) : Go.Sl.Spec Try.prog 86 [.agg (.int .i8 (m : Int) :: fl .f32 (mapTo (arrF n rs c g) m fs)).toArray, .float .f32 lo, .float .f32 hi] [] [] (RowII (filterI m (isEarly (arrF n rs c g) fs hi)) (filterI m (isLate (arrF n rs c g) fs lo))) := by
  obtain ⟨hvm, hv, hc, hg, hpl, hph⟩ := okC_4 hok
  have := earlyAndLate m (mapTo (arrF n rs c g) m fs) (by rw [mapTo_len, hf]) hm lo hi (fun i hi2 h => by
    rw [mapTo_at (by omega) (by omega), if_pos hi2] at h ⊢
    exact flt_not_both (ripeTo_part hv hc hg (vAt_part hvm (by omega)) _ (by omega)) hpl hph hlh h)
  rw [mapTo_early (by omega), mapTo_late (by omega)] at this
  exact this

set_option maxRecDepth 20000 in
theorem impl_EL_ok (n : Nat) (rs : List Nat) (hl : rs.length = 16) (hn : n ≤ 16) (m : Nat) (fs : List Nat) (hf : fs.length = 16) (hm : m ≤ 16) (c g lo hi : Nat) (hok : okC n rs m fs [c, g, lo, hi] = true) (hlh : fle lo hi = true) : Go.Sl.Spec Try.prog 50 [.agg (.int .i8 (n : Int) :: fl .f32 rs).toArray, .float .f32 c, .float .f32 g, .agg (.int .i8 (m : Int) :: fl .f32 fs).toArray, .float .f32 lo, .float .f32 hi] [] [] (RowIIC (filterI m (isEarly (arrF n rs c g) fs hi)) (filterI m (isLate (arrF n rs c g) fs lo)) 0) := by
  refine spec_of Try.func50 rfl Try.ntmps50 rfl (fun w0 => ?_)
  have hn2 : -128 ≤ (n : Int) ∧ (n : Int) ≤ 127 := by omega
  have hm2 : -128 ≤ (m : Int) ∧ (m : Int) ≤ 127 := by omega
  obtain ⟨hvm, hv, hc, hg, hpl, hph⟩ := okC_4 hok
  have hc0 := (crC_ok hok).1
  have hcmp := part_cmp hpl hph
  refine K_seq ?_
  refine R_region ?_
  refine r_box rfl rfl rfl rfl (fun b6 => ?_)
  refine r_box rfl rfl rfl rfl (fun b9 => ?_)
  refine r_assign rfl rfl rfl ?_
  refine r_assign rfl rfl rfl ?_
  refine r_assign rfl rfl rfl ?_
  refine R_nil ?_
  refine K_tn ?_
  refine K_seq ?_
  refine R_region ?_
  refine r_loadA ag_28 sz_28 rfl rfl rfl (by first | exact .h .z | exact .h (.s .z) | exact .h (.s (.s .z)) | exact .h (.s (.s (.s .z))) | exact .h (.s (.s (.s (.s .z)))) | exact .h (.s (.s (.s (.s (.s .z))))) | exact .h (.s (.s (.s (.s (.s (.s .z)))))) | exact .h (.s (.s (.s (.s (.s (.s (.s .z))))))) | exact .h (.s (.s (.s (.s (.s (.s (.s (.s .z)))))))) | exact .x .z | exact .x (.s .z) | exact .x (.s (.s .z)) | exact .x (.s (.s (.s .z))) | exact .x (.s (.s (.s (.s .z)))) | exact .x (.s (.s (.s (.s (.s .z))))) | exact .x (.s (.s (.s (.s (.s (.s .z))))))) (by first | rfl | exact gC (by omega) | exact takeC (by omega) | exact takeC0 (by omega)) ?_
  refine r_loadA ag_54 sz_54 rfl rfl rfl (by first | exact .h .z | exact .h (.s .z) | exact .h (.s (.s .z)) | exact .h (.s (.s (.s .z))) | exact .h (.s (.s (.s (.s .z)))) | exact .h (.s (.s (.s (.s (.s .z))))) | exact .h (.s (.s (.s (.s (.s (.s .z)))))) | exact .h (.s (.s (.s (.s (.s (.s (.s .z))))))) | exact .h (.s (.s (.s (.s (.s (.s (.s (.s .z)))))))) | exact .x .z | exact .x (.s .z) | exact .x (.s (.s .z)) | exact .x (.s (.s (.s .z))) | exact .x (.s (.s (.s (.s .z)))) | exact .x (.s (.s (.s (.s (.s .z))))) | exact .x (.s (.s (.s (.s (.s (.s .z))))))) (by first | rfl | exact gC (by omega) | exact takeC (by omega) | exact takeC0 (by omega)) ?_
  refine r_move rfl rfl rfl ?_
  refine r_move rfl rfl rfl ?_
  refine r_move rfl rfl rfl ?_
  refine r_move rfl rfl rfl ?_
  refine r_buildSlice sl_47 sz_23 zr_23 rfl rfl rfl rfl rfl (by first | rfl) (fun b24 => ?_)
  refine r_callV cb_83 rfl rfl rfl rfl rfl (crateCode n rs hl (by first | assumption | omega) m fs hf (by first | assumption | omega) _ _ _ _ _ _ _ [c, g, lo, hi] rfl (fun i hi => gF0 (by simpa using hi)) (by simp)) (by repeat (first | exact .z | refine .s (.h .z) ?_ | refine .s (.h (.s .z)) ?_ | refine .s (.h (.s (.s .z))) ?_ | refine .s (.h (.s (.s (.s .z)))) ?_ | refine .s (.h (.s (.s (.s (.s .z))))) ?_ | refine .s (.h (.s (.s (.s (.s (.s .z)))))) ?_ | refine .s (.h (.s (.s (.s (.s (.s (.s .z))))))) ?_ | refine .s (.h (.s (.s (.s (.s (.s (.s (.s .z)))))))) ?_ | refine .s (.h (.s (.s (.s (.s (.s (.s (.s (.s .z))))))))) ?_ | refine .s (.x .z) ?_ | refine .s (.x (.s .z)) ?_ | refine .s (.x (.s (.s .z))) ?_ | refine .s (.x (.s (.s (.s .z)))) ?_ | refine .s (.x (.s (.s (.s (.s .z))))) ?_ | refine .s (.x (.s (.s (.s (.s (.s .z)))))) ?_ | refine .s (.x (.s (.s (.s (.s (.s (.s .z))))))) ?_)) ?_
  refine r_assign rfl rfl rfl ?_
  refine R_nil ?_
  refine K_tn ?_
  refine K_seq ?_
  refine K_block ?_
  refine K_seq ?_
  refine R_region ?_
  refine r_move rfl rfl rfl ?_
  refine s_neq rfl rfl rfl rfl (fun h28 => ?_) (fun h28 => ?_)
  · first
    | (exfalso; first | (simp_all; done) | omega)
    |
      refine r_assign rfl rfl rfl ?_
      refine R_nil ?_
      refine K_tn ?_
      refine K_cond_t rfl ?_
      refine K_seq ?_
      refine R_region ?_
      refine r_move rfl rfl rfl ?_
      refine r_assign rfl rfl rfl ?_
      refine r_assign rfl rfl rfl ?_
      refine r_assign rfl rfl rfl ?_
      refine R_nil ?_
      refine K_tn ?_
      refine K_ret ?_
      refine K_br ?_
      refine K_tr ?_
      refine K_done (H' := [(p.b, .cells (il (filterI m (isEarly (arrF n rs c g) fs hi)) ++ p.junk).toArray p.u (0, 0)), (q.b, .cells (il (filterI m (isLate (arrF n rs c g) fs lo)) ++ q.junk).toArray q.u (0, 0))]) rfl rfl (.s (.tmp rfl) (.s (.tmp rfl) (.s (.tmp rfl) .z))) (by repeat (first | exact .z | apply Rems.s Rem.z | apply Rems.s (Rem.s Rem.z) | apply Rems.s (Rem.s (Rem.s Rem.z)) | apply Rems.s (Rem.s (Rem.s (Rem.s Rem.z))) | apply Rems.s (Rem.s (Rem.s (Rem.s (Rem.s Rem.z)))) | apply Rems.s (Rem.s (Rem.s (Rem.s (Rem.s (Rem.s Rem.z))))) | apply Rems.s (Rem.s (Rem.s (Rem.s (Rem.s (Rem.s (Rem.s Rem.z)))))) | apply Rems.s (Rem.s (Rem.s (Rem.s (Rem.s (Rem.s (Rem.s (Rem.s Rem.z))))))) | apply Rems.s (Rem.s (Rem.s (Rem.s (Rem.s (Rem.s (Rem.s (Rem.s (Rem.s Rem.z)))))))) | apply Rems.s (Rem.s (Rem.s (Rem.s (Rem.s (Rem.s (Rem.s (Rem.s (Rem.s (Rem.s Rem.z))))))))))) ?_
      exact ⟨p, q, rfl, hq1, hq2, rfl⟩
  · first
    | (exfalso; first | (simp_all; done) | omega)
    |
      refine r_assign rfl rfl rfl ?_
      refine R_nil ?_
      refine K_tn ?_
      refine K_cond_f rfl ?_
      refine K_seq ?_
      refine R_region ?_
      refine r_move rfl rfl rfl ?_
      refine r_move rfl rfl rfl ?_
      refine s_fcmp rfl rfl rfl rfl (fun _ _ => run_fgt) (fun h33 => ?_) (fun h33 => ?_)
      · first
        | (exfalso; first | (simp_all; done) | omega)
        |
          refine r_assign rfl rfl rfl ?_
          refine R_nil ?_
          refine K_tn ?_
          refine K_cond_t rfl ?_
          refine K_seq ?_
          refine R_region ?_
          refine r_assign rfl rfl rfl ?_
          refine r_assign rfl rfl rfl ?_
          refine r_assign rfl rfl rfl ?_
          refine R_nil ?_
          refine K_tn ?_
          refine K_ret ?_
          refine K_br ?_
          refine K_tr ?_
          refine K_done (H' := [(p.b, .cells (il (filterI m (isEarly (arrF n rs c g) fs hi)) ++ p.junk).toArray p.u (0, 0)), (q.b, .cells (il (filterI m (isLate (arrF n rs c g) fs lo)) ++ q.junk).toArray q.u (0, 0))]) rfl rfl (.s (.tmp rfl) (.s (.tmp rfl) (.s (.tmp rfl) .z))) (by repeat (first | exact .z | apply Rems.s Rem.z | apply Rems.s (Rem.s Rem.z) | apply Rems.s (Rem.s (Rem.s Rem.z)) | apply Rems.s (Rem.s (Rem.s (Rem.s Rem.z))) | apply Rems.s (Rem.s (Rem.s (Rem.s (Rem.s Rem.z)))) | apply Rems.s (Rem.s (Rem.s (Rem.s (Rem.s (Rem.s Rem.z))))) | apply Rems.s (Rem.s (Rem.s (Rem.s (Rem.s (Rem.s (Rem.s Rem.z)))))) | apply Rems.s (Rem.s (Rem.s (Rem.s (Rem.s (Rem.s (Rem.s (Rem.s Rem.z))))))) | apply Rems.s (Rem.s (Rem.s (Rem.s (Rem.s (Rem.s (Rem.s (Rem.s (Rem.s Rem.z)))))))) | apply Rems.s (Rem.s (Rem.s (Rem.s (Rem.s (Rem.s (Rem.s (Rem.s (Rem.s (Rem.s Rem.z))))))))))) ?_
          exact ⟨p, q, rfl, hq1, hq2, rfl⟩
      · first
        | (exfalso; first | (simp_all; done) | omega)
        |
          refine r_assign rfl rfl rfl ?_
          refine R_nil ?_
          refine K_tn ?_
          refine K_cond_f rfl ?_
          refine K_skip ?_
          refine K_bn ?_
          refine K_tn ?_
          refine K_seq ?_
          refine R_region ?_
          refine r_loadA ag_28 sz_28 rfl rfl rfl (by first | exact .h .z | exact .h (.s .z) | exact .h (.s (.s .z)) | exact .h (.s (.s (.s .z))) | exact .h (.s (.s (.s (.s .z)))) | exact .h (.s (.s (.s (.s (.s .z))))) | exact .h (.s (.s (.s (.s (.s (.s .z)))))) | exact .h (.s (.s (.s (.s (.s (.s (.s .z))))))) | exact .h (.s (.s (.s (.s (.s (.s (.s (.s .z)))))))) | exact .x .z | exact .x (.s .z) | exact .x (.s (.s .z)) | exact .x (.s (.s (.s .z))) | exact .x (.s (.s (.s (.s .z)))) | exact .x (.s (.s (.s (.s (.s .z))))) | exact .x (.s (.s (.s (.s (.s (.s .z))))))) (by first | rfl | exact gC (by omega) | exact takeC (by omega) | exact takeC0 (by omega)) ?_
          refine r_move rfl rfl rfl ?_
          refine r_move rfl rfl rfl ?_
          refine r_loadA ag_54 sz_54 rfl rfl rfl (by first | exact .h .z | exact .h (.s .z) | exact .h (.s (.s .z)) | exact .h (.s (.s (.s .z))) | exact .h (.s (.s (.s (.s .z)))) | exact .h (.s (.s (.s (.s (.s .z))))) | exact .h (.s (.s (.s (.s (.s (.s .z)))))) | exact .h (.s (.s (.s (.s (.s (.s (.s .z))))))) | exact .h (.s (.s (.s (.s (.s (.s (.s (.s .z)))))))) | exact .x .z | exact .x (.s .z) | exact .x (.s (.s .z)) | exact .x (.s (.s (.s .z))) | exact .x (.s (.s (.s (.s .z)))) | exact .x (.s (.s (.s (.s (.s .z))))) | exact .x (.s (.s (.s (.s (.s (.s .z))))))) (by first | rfl | exact gC (by omega) | exact takeC (by omega) | exact takeC0 (by omega)) ?_
          refine r_callV cb_84 rfl rfl rfl rfl rfl (arrive n rs hl hn c g hv hc hg m fs hf hm hvm) (by repeat (first | exact .z | refine .s (.h .z) ?_ | refine .s (.h (.s .z)) ?_ | refine .s (.h (.s (.s .z))) ?_ | refine .s (.h (.s (.s (.s .z)))) ?_ | refine .s (.h (.s (.s (.s (.s .z))))) ?_ | refine .s (.h (.s (.s (.s (.s (.s .z)))))) ?_ | refine .s (.h (.s (.s (.s (.s (.s (.s .z))))))) ?_ | refine .s (.h (.s (.s (.s (.s (.s (.s (.s .z)))))))) ?_ | refine .s (.h (.s (.s (.s (.s (.s (.s (.s (.s .z))))))))) ?_ | refine .s (.x .z) ?_ | refine .s (.x (.s .z)) ?_ | refine .s (.x (.s (.s .z))) ?_ | refine .s (.x (.s (.s (.s .z)))) ?_ | refine .s (.x (.s (.s (.s (.s .z))))) ?_ | refine .s (.x (.s (.s (.s (.s (.s .z)))))) ?_ | refine .s (.x (.s (.s (.s (.s (.s (.s .z))))))) ?_)) ?_
          refine r_move rfl rfl rfl ?_
          refine r_move rfl rfl rfl ?_
          refine r_callR cb_86 rfl rfl rfl rfl rfl (earlyAndLate2 n rs hl hn m fs hf hm c g lo hi hok hlh) (by repeat (first | exact .z | refine .s (.h .z) ?_ | refine .s (.h (.s .z)) ?_ | refine .s (.h (.s (.s .z))) ?_ | refine .s (.h (.s (.s (.s .z)))) ?_ | refine .s (.h (.s (.s (.s (.s .z))))) ?_ | refine .s (.h (.s (.s (.s (.s (.s .z)))))) ?_ | refine .s (.h (.s (.s (.s (.s (.s (.s .z))))))) ?_ | refine .s (.h (.s (.s (.s (.s (.s (.s (.s .z)))))))) ?_ | refine .s (.h (.s (.s (.s (.s (.s (.s (.s (.s .z))))))))) ?_ | refine .s (.x .z) ?_ | refine .s (.x (.s .z)) ?_ | refine .s (.x (.s (.s .z))) ?_ | refine .s (.x (.s (.s (.s .z)))) ?_ | refine .s (.x (.s (.s (.s (.s .z))))) ?_ | refine .s (.x (.s (.s (.s (.s (.s .z)))))) ?_ | refine .s (.x (.s (.s (.s (.s (.s (.s .z))))))) ?_)) ?_
          rintro _ _ ⟨p, q, rfl, hq1, hq2, rfl⟩
          refine r_move rfl rfl rfl ?_
          refine r_extract rfl rfl rfl rfl ?_
          refine r_extract rfl rfl rfl rfl ?_
          refine r_assign rfl rfl rfl ?_
          refine r_assign rfl rfl rfl ?_
          refine R_nil ?_
          refine K_tn ?_
          refine K_seq ?_
          refine R_region ?_
          refine r_move rfl rfl rfl ?_
          refine r_move rfl rfl rfl ?_
          refine r_assign rfl rfl rfl ?_
          refine r_assign rfl rfl rfl ?_
          refine r_assign rfl rfl rfl ?_
          refine R_nil ?_
          refine K_tn ?_
          refine K_ret ?_
          refine K_done (H' := [(p.b, .cells (il (filterI m (isEarly (arrF n rs c g) fs hi)) ++ p.junk).toArray p.u (0, 0)), (q.b, .cells (il (filterI m (isLate (arrF n rs c g) fs lo)) ++ q.junk).toArray q.u (0, 0))]) rfl rfl (.s (.tmp rfl) (.s (.tmp rfl) (.s (.tmp rfl) .z))) (by repeat (first | exact .z | apply Rems.s Rem.z | apply Rems.s (Rem.s Rem.z) | apply Rems.s (Rem.s (Rem.s Rem.z)) | apply Rems.s (Rem.s (Rem.s (Rem.s Rem.z))) | apply Rems.s (Rem.s (Rem.s (Rem.s (Rem.s Rem.z)))) | apply Rems.s (Rem.s (Rem.s (Rem.s (Rem.s (Rem.s Rem.z))))) | apply Rems.s (Rem.s (Rem.s (Rem.s (Rem.s (Rem.s (Rem.s Rem.z)))))) | apply Rems.s (Rem.s (Rem.s (Rem.s (Rem.s (Rem.s (Rem.s (Rem.s Rem.z))))))) | apply Rems.s (Rem.s (Rem.s (Rem.s (Rem.s (Rem.s (Rem.s (Rem.s (Rem.s Rem.z)))))))) | apply Rems.s (Rem.s (Rem.s (Rem.s (Rem.s (Rem.s (Rem.s (Rem.s (Rem.s (Rem.s Rem.z))))))))))) ?_
          exact ⟨p, q, rfl, hq1, hq2, rfl⟩

set_option maxRecDepth 20000 in
theorem impl_EL_no1 (n : Int) (rs : List Nat) (hl : rs.length = 16) (hn : -128 ≤ n ∧ n ≤ 127) (m : Int) (fs : List Nat) (hf : fs.length = 16) (hm : -128 ≤ m ∧ m ≤ 127) (c g lo hi : Nat) (hno : okC n rs m fs [c, g, lo, hi] = false) : SpecV Try.prog 50 [.agg (.int .i8 n :: fl .f32 rs).toArray, .float .f32 c, .float .f32 g, .agg (.int .i8 m :: fl .f32 fs).toArray, .float .f32 lo, .float .f32 hi] [] (packV [.slice none 0 0, .slice none 0 0, .int .i64 (crC n rs m fs [c, g, lo, hi] (fle lo hi))]) := by
  refine spec_of Try.func50 rfl Try.ntmps50 rfl (fun w0 => ?_)
  obtain ⟨hn1, hn2⟩ := crC_no (fine := fle lo hi) hno
  refine K_seq ?_
  refine R_region ?_
  refine r_box rfl rfl rfl rfl (fun b6 => ?_)
  refine r_box rfl rfl rfl rfl (fun b9 => ?_)
  refine r_assign rfl rfl rfl ?_
  refine r_assign rfl rfl rfl ?_
  refine r_assign rfl rfl rfl ?_
  refine R_nil ?_
  refine K_tn ?_
  refine K_seq ?_
  refine R_region ?_
  refine r_loadA ag_28 sz_28 rfl rfl rfl (by first | exact .h .z | exact .h (.s .z) | exact .h (.s (.s .z)) | exact .h (.s (.s (.s .z))) | exact .h (.s (.s (.s (.s .z)))) | exact .h (.s (.s (.s (.s (.s .z))))) | exact .h (.s (.s (.s (.s (.s (.s .z)))))) | exact .h (.s (.s (.s (.s (.s (.s (.s .z))))))) | exact .h (.s (.s (.s (.s (.s (.s (.s (.s .z)))))))) | exact .x .z | exact .x (.s .z) | exact .x (.s (.s .z)) | exact .x (.s (.s (.s .z))) | exact .x (.s (.s (.s (.s .z)))) | exact .x (.s (.s (.s (.s (.s .z))))) | exact .x (.s (.s (.s (.s (.s (.s .z))))))) (by first | rfl | exact gC (by omega) | exact takeC (by omega) | exact takeC0 (by omega)) ?_
  refine r_loadA ag_54 sz_54 rfl rfl rfl (by first | exact .h .z | exact .h (.s .z) | exact .h (.s (.s .z)) | exact .h (.s (.s (.s .z))) | exact .h (.s (.s (.s (.s .z)))) | exact .h (.s (.s (.s (.s (.s .z))))) | exact .h (.s (.s (.s (.s (.s (.s .z)))))) | exact .h (.s (.s (.s (.s (.s (.s (.s .z))))))) | exact .h (.s (.s (.s (.s (.s (.s (.s (.s .z)))))))) | exact .x .z | exact .x (.s .z) | exact .x (.s (.s .z)) | exact .x (.s (.s (.s .z))) | exact .x (.s (.s (.s (.s .z)))) | exact .x (.s (.s (.s (.s (.s .z))))) | exact .x (.s (.s (.s (.s (.s (.s .z))))))) (by first | rfl | exact gC (by omega) | exact takeC (by omega) | exact takeC0 (by omega)) ?_
  refine r_move rfl rfl rfl ?_
  refine r_move rfl rfl rfl ?_
  refine r_move rfl rfl rfl ?_
  refine r_move rfl rfl rfl ?_
  refine r_buildSlice sl_47 sz_23 zr_23 rfl rfl rfl rfl rfl (by first | rfl) (fun b24 => ?_)
  refine r_callV cb_83 rfl rfl rfl rfl rfl (crateCode n rs hl (by first | assumption | omega) m fs hf (by first | assumption | omega) _ _ _ _ _ _ _ [c, g, lo, hi] rfl (fun i hi => gF0 (by simpa using hi)) (by simp)) (by repeat (first | exact .z | refine .s (.h .z) ?_ | refine .s (.h (.s .z)) ?_ | refine .s (.h (.s (.s .z))) ?_ | refine .s (.h (.s (.s (.s .z)))) ?_ | refine .s (.h (.s (.s (.s (.s .z))))) ?_ | refine .s (.h (.s (.s (.s (.s (.s .z)))))) ?_ | refine .s (.h (.s (.s (.s (.s (.s (.s .z))))))) ?_ | refine .s (.h (.s (.s (.s (.s (.s (.s (.s .z)))))))) ?_ | refine .s (.h (.s (.s (.s (.s (.s (.s (.s (.s .z))))))))) ?_ | refine .s (.x .z) ?_ | refine .s (.x (.s .z)) ?_ | refine .s (.x (.s (.s .z))) ?_ | refine .s (.x (.s (.s (.s .z)))) ?_ | refine .s (.x (.s (.s (.s (.s .z))))) ?_ | refine .s (.x (.s (.s (.s (.s (.s .z)))))) ?_ | refine .s (.x (.s (.s (.s (.s (.s (.s .z))))))) ?_)) ?_
  refine r_assign rfl rfl rfl ?_
  refine R_nil ?_
  refine K_tn ?_
  refine K_seq ?_
  refine K_block ?_
  refine K_seq ?_
  refine R_region ?_
  refine r_move rfl rfl rfl ?_
  refine s_neq rfl rfl rfl rfl (fun h28 => ?_) (fun h28 => ?_)
  · first
    | (exfalso; first | omega | (simp_all; done))
    |
      refine r_assign rfl rfl rfl ?_
      refine R_nil ?_
      refine K_tn ?_
      refine K_cond_t rfl ?_
      refine K_seq ?_
      refine R_region ?_
      refine r_move rfl rfl rfl ?_
      refine r_assign rfl rfl rfl ?_
      refine r_assign rfl rfl rfl ?_
      refine r_assign rfl rfl rfl ?_
      refine R_nil ?_
      refine K_tn ?_
      refine K_ret ?_
      refine K_br ?_
      refine K_tr ?_
      refine K_done (H' := []) rfl rfl (.s (.tmp rfl) (.s (.tmp rfl) (.s (.tmp rfl) .z))) (by repeat (first | exact .z | apply Rems.s Rem.z | apply Rems.s (Rem.s Rem.z) | apply Rems.s (Rem.s (Rem.s Rem.z)) | apply Rems.s (Rem.s (Rem.s (Rem.s Rem.z))) | apply Rems.s (Rem.s (Rem.s (Rem.s (Rem.s Rem.z)))) | apply Rems.s (Rem.s (Rem.s (Rem.s (Rem.s (Rem.s Rem.z))))) | apply Rems.s (Rem.s (Rem.s (Rem.s (Rem.s (Rem.s (Rem.s Rem.z)))))) | apply Rems.s (Rem.s (Rem.s (Rem.s (Rem.s (Rem.s (Rem.s (Rem.s Rem.z))))))) | apply Rems.s (Rem.s (Rem.s (Rem.s (Rem.s (Rem.s (Rem.s (Rem.s (Rem.s Rem.z)))))))) | apply Rems.s (Rem.s (Rem.s (Rem.s (Rem.s (Rem.s (Rem.s (Rem.s (Rem.s (Rem.s Rem.z))))))))))) ?_
      refine ⟨?_, rfl⟩
      rw [hn1]
  · first
    | (exfalso; first | omega | (simp_all; done))
    |
      refine r_assign rfl rfl rfl ?_
      refine R_nil ?_
      refine K_tn ?_
      refine K_cond_f rfl ?_
      refine K_seq ?_
      refine R_region ?_
      refine r_move rfl rfl rfl ?_
      refine r_move rfl rfl rfl ?_
      refine s_fcmp rfl rfl rfl rfl (fun _ _ => run_fgt) (fun h33 => ?_) (fun h33 => ?_)
      · first
        | (exfalso; first | omega | (simp_all; done))
        |
          refine r_assign rfl rfl rfl ?_
          refine R_nil ?_
          refine K_tn ?_
          refine K_cond_t rfl ?_
          refine K_seq ?_
          refine R_region ?_
          refine r_assign rfl rfl rfl ?_
          refine r_assign rfl rfl rfl ?_
          refine r_assign rfl rfl rfl ?_
          refine R_nil ?_
          refine K_tn ?_
          refine K_ret ?_
          refine K_br ?_
          refine K_tr ?_
          refine K_done (H' := []) rfl rfl (.s (.tmp rfl) (.s (.tmp rfl) (.s (.tmp rfl) .z))) (by repeat (first | exact .z | apply Rems.s Rem.z | apply Rems.s (Rem.s Rem.z) | apply Rems.s (Rem.s (Rem.s Rem.z)) | apply Rems.s (Rem.s (Rem.s (Rem.s Rem.z))) | apply Rems.s (Rem.s (Rem.s (Rem.s (Rem.s Rem.z)))) | apply Rems.s (Rem.s (Rem.s (Rem.s (Rem.s (Rem.s Rem.z))))) | apply Rems.s (Rem.s (Rem.s (Rem.s (Rem.s (Rem.s (Rem.s Rem.z)))))) | apply Rems.s (Rem.s (Rem.s (Rem.s (Rem.s (Rem.s (Rem.s (Rem.s Rem.z))))))) | apply Rems.s (Rem.s (Rem.s (Rem.s (Rem.s (Rem.s (Rem.s (Rem.s (Rem.s Rem.z)))))))) | apply Rems.s (Rem.s (Rem.s (Rem.s (Rem.s (Rem.s (Rem.s (Rem.s (Rem.s (Rem.s Rem.z))))))))))) ?_
          refine ⟨?_, rfl⟩
          rw [hn1]
      · first
        | (exfalso; first | omega | (simp_all; done))
        |
          refine r_assign rfl rfl rfl ?_
          refine R_nil ?_
          refine K_tn ?_
          refine K_cond_f rfl ?_
          refine K_skip ?_
          refine K_bn ?_
          refine K_tn ?_
          refine K_seq ?_
          refine R_region ?_
          refine r_loadA ag_28 sz_28 rfl rfl rfl (by first | exact .h .z | exact .h (.s .z) | exact .h (.s (.s .z)) | exact .h (.s (.s (.s .z))) | exact .h (.s (.s (.s (.s .z)))) | exact .h (.s (.s (.s (.s (.s .z))))) | exact .h (.s (.s (.s (.s (.s (.s .z)))))) | exact .h (.s (.s (.s (.s (.s (.s (.s .z))))))) | exact .h (.s (.s (.s (.s (.s (.s (.s (.s .z)))))))) | exact .x .z | exact .x (.s .z) | exact .x (.s (.s .z)) | exact .x (.s (.s (.s .z))) | exact .x (.s (.s (.s (.s .z)))) | exact .x (.s (.s (.s (.s (.s .z))))) | exact .x (.s (.s (.s (.s (.s (.s .z))))))) (by first | rfl | exact gC (by omega) | exact takeC (by omega) | exact takeC0 (by omega)) ?_
          refine r_move rfl rfl rfl ?_
          refine r_move rfl rfl rfl ?_
          refine r_loadA ag_54 sz_54 rfl rfl rfl (by first | exact .h .z | exact .h (.s .z) | exact .h (.s (.s .z)) | exact .h (.s (.s (.s .z))) | exact .h (.s (.s (.s (.s .z)))) | exact .h (.s (.s (.s (.s (.s .z))))) | exact .h (.s (.s (.s (.s (.s (.s .z)))))) | exact .h (.s (.s (.s (.s (.s (.s (.s .z))))))) | exact .h (.s (.s (.s (.s (.s (.s (.s (.s .z)))))))) | exact .x .z | exact .x (.s .z) | exact .x (.s (.s .z)) | exact .x (.s (.s (.s .z))) | exact .x (.s (.s (.s (.s .z)))) | exact .x (.s (.s (.s (.s (.s .z))))) | exact .x (.s (.s (.s (.s (.s (.s .z))))))) (by first | rfl | exact gC (by omega) | exact takeC (by omega) | exact takeC0 (by omega)) ?_
          refine r_callV cb_84 rfl rfl rfl rfl rfl (absurd rfl rfl) (by repeat (first | exact .z | refine .s (.h .z) ?_ | refine .s (.h (.s .z)) ?_ | refine .s (.h (.s (.s .z))) ?_ | refine .s (.h (.s (.s (.s .z)))) ?_ | refine .s (.h (.s (.s (.s (.s .z))))) ?_ | refine .s (.h (.s (.s (.s (.s (.s .z)))))) ?_ | refine .s (.h (.s (.s (.s (.s (.s (.s .z))))))) ?_ | refine .s (.h (.s (.s (.s (.s (.s (.s (.s .z)))))))) ?_ | refine .s (.h (.s (.s (.s (.s (.s (.s (.s (.s .z))))))))) ?_ | refine .s (.x .z) ?_ | refine .s (.x (.s .z)) ?_ | refine .s (.x (.s (.s .z))) ?_ | refine .s (.x (.s (.s (.s .z)))) ?_ | refine .s (.x (.s (.s (.s (.s .z))))) ?_ | refine .s (.x (.s (.s (.s (.s (.s .z)))))) ?_ | refine .s (.x (.s (.s (.s (.s (.s (.s .z))))))) ?_)) ?_
          refine r_move rfl rfl rfl ?_
          refine r_move rfl rfl rfl ?_
          refine r_callV cb_86 rfl rfl rfl rfl rfl (absurd rfl rfl) (by repeat (first | exact .z | refine .s (.h .z) ?_ | refine .s (.h (.s .z)) ?_ | refine .s (.h (.s (.s .z))) ?_ | refine .s (.h (.s (.s (.s .z)))) ?_ | refine .s (.h (.s (.s (.s (.s .z))))) ?_ | refine .s (.h (.s (.s (.s (.s (.s .z)))))) ?_ | refine .s (.h (.s (.s (.s (.s (.s (.s .z))))))) ?_ | refine .s (.h (.s (.s (.s (.s (.s (.s (.s .z)))))))) ?_ | refine .s (.h (.s (.s (.s (.s (.s (.s (.s (.s .z))))))))) ?_ | refine .s (.x .z) ?_ | refine .s (.x (.s .z)) ?_ | refine .s (.x (.s (.s .z))) ?_ | refine .s (.x (.s (.s (.s .z)))) ?_ | refine .s (.x (.s (.s (.s (.s .z))))) ?_ | refine .s (.x (.s (.s (.s (.s (.s .z)))))) ?_ | refine .s (.x (.s (.s (.s (.s (.s (.s .z))))))) ?_)) ?_
          refine r_move rfl rfl rfl ?_
          refine r_extract rfl rfl rfl rfl ?_
          refine r_extract rfl rfl rfl rfl ?_
          refine r_assign rfl rfl rfl ?_
          refine r_assign rfl rfl rfl ?_
          refine R_nil ?_
          refine K_tn ?_
          refine K_seq ?_
          refine R_region ?_
          refine r_move rfl rfl rfl ?_
          refine r_move rfl rfl rfl ?_
          refine r_assign rfl rfl rfl ?_
          refine r_assign rfl rfl rfl ?_
          refine r_assign rfl rfl rfl ?_
          refine R_nil ?_
          refine K_tn ?_
          refine K_ret ?_
          refine K_done (H' := []) rfl rfl (.s (.tmp rfl) (.s (.tmp rfl) (.s (.tmp rfl) .z))) (by repeat (first | exact .z | apply Rems.s Rem.z | apply Rems.s (Rem.s Rem.z) | apply Rems.s (Rem.s (Rem.s Rem.z)) | apply Rems.s (Rem.s (Rem.s (Rem.s Rem.z))) | apply Rems.s (Rem.s (Rem.s (Rem.s (Rem.s Rem.z)))) | apply Rems.s (Rem.s (Rem.s (Rem.s (Rem.s (Rem.s Rem.z))))) | apply Rems.s (Rem.s (Rem.s (Rem.s (Rem.s (Rem.s (Rem.s Rem.z)))))) | apply Rems.s (Rem.s (Rem.s (Rem.s (Rem.s (Rem.s (Rem.s (Rem.s Rem.z))))))) | apply Rems.s (Rem.s (Rem.s (Rem.s (Rem.s (Rem.s (Rem.s (Rem.s (Rem.s Rem.z)))))))) | apply Rems.s (Rem.s (Rem.s (Rem.s (Rem.s (Rem.s (Rem.s (Rem.s (Rem.s (Rem.s Rem.z))))))))))) ?_
          refine ⟨?_, rfl⟩
          rw [hn1]

set_option maxRecDepth 20000 in
theorem impl_EL_no2 (n : Int) (rs : List Nat) (hl : rs.length = 16) (hn : -128 ≤ n ∧ n ≤ 127) (m : Int) (fs : List Nat) (hf : fs.length = 16) (hm : -128 ≤ m ∧ m ≤ 127) (c g lo hi : Nat) (hok : okC n rs m fs [c, g, lo, hi] = true) (hlh : fle lo hi = false) : SpecV Try.prog 50 [.agg (.int .i8 n :: fl .f32 rs).toArray, .float .f32 c, .float .f32 g, .agg (.int .i8 m :: fl .f32 fs).toArray, .float .f32 lo, .float .f32 hi] [] (packV [.slice none 0 0, .slice none 0 0, .int .i64 (crC n rs m fs [c, g, lo, hi] (fle lo hi))]) := by
  refine spec_of Try.func50 rfl Try.ntmps50 rfl (fun w0 => ?_)
  obtain ⟨hvm, hv, hc, hg, hpl, hph⟩ := okC_4 hok
  obtain ⟨hc0, hc2⟩ := crC_ok hok
  have hcmp := part_cmp hpl hph
  rw [hlh] at hcmp
  refine K_seq ?_
  refine R_region ?_
  refine r_box rfl rfl rfl rfl (fun b6 => ?_)
  refine r_box rfl rfl rfl rfl (fun b9 => ?_)
  refine r_assign rfl rfl rfl ?_
  refine r_assign rfl rfl rfl ?_
  refine r_assign rfl rfl rfl ?_
  refine R_nil ?_
  refine K_tn ?_
  refine K_seq ?_
  refine R_region ?_
  refine r_loadA ag_28 sz_28 rfl rfl rfl (by first | exact .h .z | exact .h (.s .z) | exact .h (.s (.s .z)) | exact .h (.s (.s (.s .z))) | exact .h (.s (.s (.s (.s .z)))) | exact .h (.s (.s (.s (.s (.s .z))))) | exact .h (.s (.s (.s (.s (.s (.s .z)))))) | exact .h (.s (.s (.s (.s (.s (.s (.s .z))))))) | exact .h (.s (.s (.s (.s (.s (.s (.s (.s .z)))))))) | exact .x .z | exact .x (.s .z) | exact .x (.s (.s .z)) | exact .x (.s (.s (.s .z))) | exact .x (.s (.s (.s (.s .z)))) | exact .x (.s (.s (.s (.s (.s .z))))) | exact .x (.s (.s (.s (.s (.s (.s .z))))))) (by first | rfl | exact gC (by omega) | exact takeC (by omega) | exact takeC0 (by omega)) ?_
  refine r_loadA ag_54 sz_54 rfl rfl rfl (by first | exact .h .z | exact .h (.s .z) | exact .h (.s (.s .z)) | exact .h (.s (.s (.s .z))) | exact .h (.s (.s (.s (.s .z)))) | exact .h (.s (.s (.s (.s (.s .z))))) | exact .h (.s (.s (.s (.s (.s (.s .z)))))) | exact .h (.s (.s (.s (.s (.s (.s (.s .z))))))) | exact .h (.s (.s (.s (.s (.s (.s (.s (.s .z)))))))) | exact .x .z | exact .x (.s .z) | exact .x (.s (.s .z)) | exact .x (.s (.s (.s .z))) | exact .x (.s (.s (.s (.s .z)))) | exact .x (.s (.s (.s (.s (.s .z))))) | exact .x (.s (.s (.s (.s (.s (.s .z))))))) (by first | rfl | exact gC (by omega) | exact takeC (by omega) | exact takeC0 (by omega)) ?_
  refine r_move rfl rfl rfl ?_
  refine r_move rfl rfl rfl ?_
  refine r_move rfl rfl rfl ?_
  refine r_move rfl rfl rfl ?_
  refine r_buildSlice sl_47 sz_23 zr_23 rfl rfl rfl rfl rfl (by first | rfl) (fun b24 => ?_)
  refine r_callV cb_83 rfl rfl rfl rfl rfl (crateCode n rs hl (by first | assumption | omega) m fs hf (by first | assumption | omega) _ _ _ _ _ _ _ [c, g, lo, hi] rfl (fun i hi => gF0 (by simpa using hi)) (by simp)) (by repeat (first | exact .z | refine .s (.h .z) ?_ | refine .s (.h (.s .z)) ?_ | refine .s (.h (.s (.s .z))) ?_ | refine .s (.h (.s (.s (.s .z)))) ?_ | refine .s (.h (.s (.s (.s (.s .z))))) ?_ | refine .s (.h (.s (.s (.s (.s (.s .z)))))) ?_ | refine .s (.h (.s (.s (.s (.s (.s (.s .z))))))) ?_ | refine .s (.h (.s (.s (.s (.s (.s (.s (.s .z)))))))) ?_ | refine .s (.h (.s (.s (.s (.s (.s (.s (.s (.s .z))))))))) ?_ | refine .s (.x .z) ?_ | refine .s (.x (.s .z)) ?_ | refine .s (.x (.s (.s .z))) ?_ | refine .s (.x (.s (.s (.s .z)))) ?_ | refine .s (.x (.s (.s (.s (.s .z))))) ?_ | refine .s (.x (.s (.s (.s (.s (.s .z)))))) ?_ | refine .s (.x (.s (.s (.s (.s (.s (.s .z))))))) ?_)) ?_
  refine r_assign rfl rfl rfl ?_
  refine R_nil ?_
  refine K_tn ?_
  refine K_seq ?_
  refine K_block ?_
  refine K_seq ?_
  refine R_region ?_
  refine r_move rfl rfl rfl ?_
  refine s_neq rfl rfl rfl rfl (fun h28 => ?_) (fun h28 => ?_)
  · first
    | (exfalso; first | omega | (simp_all; done))
    |
      refine r_assign rfl rfl rfl ?_
      refine R_nil ?_
      refine K_tn ?_
      refine K_cond_t rfl ?_
      refine K_seq ?_
      refine R_region ?_
      refine r_move rfl rfl rfl ?_
      refine r_assign rfl rfl rfl ?_
      refine r_assign rfl rfl rfl ?_
      refine r_assign rfl rfl rfl ?_
      refine R_nil ?_
      refine K_tn ?_
      refine K_ret ?_
      refine K_br ?_
      refine K_tr ?_
      refine K_done (H' := []) rfl rfl (.s (.tmp rfl) (.s (.tmp rfl) (.s (.tmp rfl) .z))) (by repeat (first | exact .z | apply Rems.s Rem.z | apply Rems.s (Rem.s Rem.z) | apply Rems.s (Rem.s (Rem.s Rem.z)) | apply Rems.s (Rem.s (Rem.s (Rem.s Rem.z))) | apply Rems.s (Rem.s (Rem.s (Rem.s (Rem.s Rem.z)))) | apply Rems.s (Rem.s (Rem.s (Rem.s (Rem.s (Rem.s Rem.z))))) | apply Rems.s (Rem.s (Rem.s (Rem.s (Rem.s (Rem.s (Rem.s Rem.z)))))) | apply Rems.s (Rem.s (Rem.s (Rem.s (Rem.s (Rem.s (Rem.s (Rem.s Rem.z))))))) | apply Rems.s (Rem.s (Rem.s (Rem.s (Rem.s (Rem.s (Rem.s (Rem.s (Rem.s Rem.z)))))))) | apply Rems.s (Rem.s (Rem.s (Rem.s (Rem.s (Rem.s (Rem.s (Rem.s (Rem.s (Rem.s Rem.z))))))))))) ?_
      refine ⟨?_, rfl⟩
      rw [hlh, hc2]
  · first
    | (exfalso; first | omega | (simp_all; done))
    |
      refine r_assign rfl rfl rfl ?_
      refine R_nil ?_
      refine K_tn ?_
      refine K_cond_f rfl ?_
      refine K_seq ?_
      refine R_region ?_
      refine r_move rfl rfl rfl ?_
      refine r_move rfl rfl rfl ?_
      refine s_fcmp rfl rfl rfl rfl (fun _ _ => run_fgt) (fun h33 => ?_) (fun h33 => ?_)
      · first
        | (exfalso; first | omega | (simp_all; done))
        |
          refine r_assign rfl rfl rfl ?_
          refine R_nil ?_
          refine K_tn ?_
          refine K_cond_t rfl ?_
          refine K_seq ?_
          refine R_region ?_
          refine r_assign rfl rfl rfl ?_
          refine r_assign rfl rfl rfl ?_
          refine r_assign rfl rfl rfl ?_
          refine R_nil ?_
          refine K_tn ?_
          refine K_ret ?_
          refine K_br ?_
          refine K_tr ?_
          refine K_done (H' := []) rfl rfl (.s (.tmp rfl) (.s (.tmp rfl) (.s (.tmp rfl) .z))) (by repeat (first | exact .z | apply Rems.s Rem.z | apply Rems.s (Rem.s Rem.z) | apply Rems.s (Rem.s (Rem.s Rem.z)) | apply Rems.s (Rem.s (Rem.s (Rem.s Rem.z))) | apply Rems.s (Rem.s (Rem.s (Rem.s (Rem.s Rem.z)))) | apply Rems.s (Rem.s (Rem.s (Rem.s (Rem.s (Rem.s Rem.z))))) | apply Rems.s (Rem.s (Rem.s (Rem.s (Rem.s (Rem.s (Rem.s Rem.z)))))) | apply Rems.s (Rem.s (Rem.s (Rem.s (Rem.s (Rem.s (Rem.s (Rem.s Rem.z))))))) | apply Rems.s (Rem.s (Rem.s (Rem.s (Rem.s (Rem.s (Rem.s (Rem.s (Rem.s Rem.z)))))))) | apply Rems.s (Rem.s (Rem.s (Rem.s (Rem.s (Rem.s (Rem.s (Rem.s (Rem.s (Rem.s Rem.z))))))))))) ?_
          refine ⟨?_, rfl⟩
          rw [hlh, hc2]
      · first
        | (exfalso; first | omega | (simp_all; done))
        |
          refine r_assign rfl rfl rfl ?_
          refine R_nil ?_
          refine K_tn ?_
          refine K_cond_f rfl ?_
          refine K_skip ?_
          refine K_bn ?_
          refine K_tn ?_
          refine K_seq ?_
          refine R_region ?_
          refine r_loadA ag_28 sz_28 rfl rfl rfl (by first | exact .h .z | exact .h (.s .z) | exact .h (.s (.s .z)) | exact .h (.s (.s (.s .z))) | exact .h (.s (.s (.s (.s .z)))) | exact .h (.s (.s (.s (.s (.s .z))))) | exact .h (.s (.s (.s (.s (.s (.s .z)))))) | exact .h (.s (.s (.s (.s (.s (.s (.s .z))))))) | exact .h (.s (.s (.s (.s (.s (.s (.s (.s .z)))))))) | exact .x .z | exact .x (.s .z) | exact .x (.s (.s .z)) | exact .x (.s (.s (.s .z))) | exact .x (.s (.s (.s (.s .z)))) | exact .x (.s (.s (.s (.s (.s .z))))) | exact .x (.s (.s (.s (.s (.s (.s .z))))))) (by first | rfl | exact gC (by omega) | exact takeC (by omega) | exact takeC0 (by omega)) ?_
          refine r_move rfl rfl rfl ?_
          refine r_move rfl rfl rfl ?_
          refine r_loadA ag_54 sz_54 rfl rfl rfl (by first | exact .h .z | exact .h (.s .z) | exact .h (.s (.s .z)) | exact .h (.s (.s (.s .z))) | exact .h (.s (.s (.s (.s .z)))) | exact .h (.s (.s (.s (.s (.s .z))))) | exact .h (.s (.s (.s (.s (.s (.s .z)))))) | exact .h (.s (.s (.s (.s (.s (.s (.s .z))))))) | exact .h (.s (.s (.s (.s (.s (.s (.s (.s .z)))))))) | exact .x .z | exact .x (.s .z) | exact .x (.s (.s .z)) | exact .x (.s (.s (.s .z))) | exact .x (.s (.s (.s (.s .z)))) | exact .x (.s (.s (.s (.s (.s .z))))) | exact .x (.s (.s (.s (.s (.s (.s .z))))))) (by first | rfl | exact gC (by omega) | exact takeC (by omega) | exact takeC0 (by omega)) ?_
          refine r_callV cb_84 rfl rfl rfl rfl rfl (absurd rfl rfl) (by repeat (first | exact .z | refine .s (.h .z) ?_ | refine .s (.h (.s .z)) ?_ | refine .s (.h (.s (.s .z))) ?_ | refine .s (.h (.s (.s (.s .z)))) ?_ | refine .s (.h (.s (.s (.s (.s .z))))) ?_ | refine .s (.h (.s (.s (.s (.s (.s .z)))))) ?_ | refine .s (.h (.s (.s (.s (.s (.s (.s .z))))))) ?_ | refine .s (.h (.s (.s (.s (.s (.s (.s (.s .z)))))))) ?_ | refine .s (.h (.s (.s (.s (.s (.s (.s (.s (.s .z))))))))) ?_ | refine .s (.x .z) ?_ | refine .s (.x (.s .z)) ?_ | refine .s (.x (.s (.s .z))) ?_ | refine .s (.x (.s (.s (.s .z)))) ?_ | refine .s (.x (.s (.s (.s (.s .z))))) ?_ | refine .s (.x (.s (.s (.s (.s (.s .z)))))) ?_ | refine .s (.x (.s (.s (.s (.s (.s (.s .z))))))) ?_)) ?_
          refine r_move rfl rfl rfl ?_
          refine r_move rfl rfl rfl ?_
          refine r_callV cb_86 rfl rfl rfl rfl rfl (absurd rfl rfl) (by repeat (first | exact .z | refine .s (.h .z) ?_ | refine .s (.h (.s .z)) ?_ | refine .s (.h (.s (.s .z))) ?_ | refine .s (.h (.s (.s (.s .z)))) ?_ | refine .s (.h (.s (.s (.s (.s .z))))) ?_ | refine .s (.h (.s (.s (.s (.s (.s .z)))))) ?_ | refine .s (.h (.s (.s (.s (.s (.s (.s .z))))))) ?_ | refine .s (.h (.s (.s (.s (.s (.s (.s (.s .z)))))))) ?_ | refine .s (.h (.s (.s (.s (.s (.s (.s (.s (.s .z))))))))) ?_ | refine .s (.x .z) ?_ | refine .s (.x (.s .z)) ?_ | refine .s (.x (.s (.s .z))) ?_ | refine .s (.x (.s (.s (.s .z)))) ?_ | refine .s (.x (.s (.s (.s (.s .z))))) ?_ | refine .s (.x (.s (.s (.s (.s (.s .z)))))) ?_ | refine .s (.x (.s (.s (.s (.s (.s (.s .z))))))) ?_)) ?_
          refine r_move rfl rfl rfl ?_
          refine r_extract rfl rfl rfl rfl ?_
          refine r_extract rfl rfl rfl rfl ?_
          refine r_assign rfl rfl rfl ?_
          refine r_assign rfl rfl rfl ?_
          refine R_nil ?_
          refine K_tn ?_
          refine K_seq ?_
          refine R_region ?_
          refine r_move rfl rfl rfl ?_
          refine r_move rfl rfl rfl ?_
          refine r_assign rfl rfl rfl ?_
          refine r_assign rfl rfl rfl ?_
          refine r_assign rfl rfl rfl ?_
          refine R_nil ?_
          refine K_tn ?_
          refine K_ret ?_
          refine K_done (H' := []) rfl rfl (.s (.tmp rfl) (.s (.tmp rfl) (.s (.tmp rfl) .z))) (by repeat (first | exact .z | apply Rems.s Rem.z | apply Rems.s (Rem.s Rem.z) | apply Rems.s (Rem.s (Rem.s Rem.z)) | apply Rems.s (Rem.s (Rem.s (Rem.s Rem.z))) | apply Rems.s (Rem.s (Rem.s (Rem.s (Rem.s Rem.z)))) | apply Rems.s (Rem.s (Rem.s (Rem.s (Rem.s (Rem.s Rem.z))))) | apply Rems.s (Rem.s (Rem.s (Rem.s (Rem.s (Rem.s (Rem.s Rem.z)))))) | apply Rems.s (Rem.s (Rem.s (Rem.s (Rem.s (Rem.s (Rem.s (Rem.s Rem.z))))))) | apply Rems.s (Rem.s (Rem.s (Rem.s (Rem.s (Rem.s (Rem.s (Rem.s (Rem.s Rem.z)))))))) | apply Rems.s (Rem.s (Rem.s (Rem.s (Rem.s (Rem.s (Rem.s (Rem.s (Rem.s (Rem.s Rem.z))))))))))) ?_
          refine ⟨?_, rfl⟩
          rw [hlh, hc2]

theorem impl_EL_no (n : Int) (rs : List Nat) (hl : rs.length = 16) (hn : -128 ≤ n ∧ n ≤ 127) (m : Int) (fs : List Nat) (hf : fs.length = 16) (hm : -128 ≤ m ∧ m ≤ 127) (c g lo hi : Nat) (hno : (okC n rs m fs [c, g, lo, hi] && fle lo hi) = false) : SpecV Try.prog 50 [.agg (.int .i8 n :: fl .f32 rs).toArray, .float .f32 c, .float .f32 g, .agg (.int .i8 m :: fl .f32 fs).toArray, .float .f32 lo, .float .f32 hi] [] (packV [.slice none 0 0, .slice none 0 0, .int .i64 (crC n rs m fs [c, g, lo, hi] (fle lo hi))]) := by
  cases h : okC n rs m fs [c, g, lo, hi] with
  | false => exact impl_EL_no1 n rs hl hn m fs hf hm c g lo hi h
  | true =>
    rw [h, Bool.true_and] at hno
    exact impl_EL_no2 n rs hl hn m fs hf hm c g lo hi h hno

set_option maxRecDepth 20000 in
theorem law_EL_ok (n : Nat) (rs : List Nat) (hl : rs.length = 16) (hn : n ≤ 16) (m : Nat) (fs : List Nat) (hf : fs.length = 16) (hm : m ≤ 16) (c g lo hi : Nat) (hok : okC n rs m fs [c, g, lo, hi] = true) (hlh : fle lo hi = true) : SpecV Try.prog 15 [.agg (.int .i8 (n : Int) :: fl .f32 rs).toArray, .float .f32 c, .float .f32 g, .agg (.int .i8 (m : Int) :: fl .f32 fs).toArray, .float .f32 lo, .float .f32 hi] [] (.bool true) := by
  refine spec_of Try.func15 rfl Try.ntmps15 rfl (fun w0 => ?_)
  have hle1 := filterI_le m (isEarly (arrF n rs c g) fs hi)
  have hle2 := filterI_le m (isLate (arrF n rs c g) fs lo)
  refine K_seq ?_
  refine R_region ?_
  refine r_box rfl rfl rfl rfl (fun b6 => ?_)
  refine r_box rfl rfl rfl rfl (fun b9 => ?_)
  refine r_assign rfl rfl rfl ?_
  refine R_nil ?_
  refine K_tn ?_
  refine K_seq ?_
  refine R_dr0 mixed ?_
  refine R_drq 0 8 (by kernel_rfl) ?_
  refine q_pure rfl rfl (p_loadA ag_26 sz_26 rfl (by first | exact .h .z | exact .h (.s .z) | exact .h (.s (.s .z)) | exact .h (.s (.s (.s .z))) | exact .h (.s (.s (.s (.s .z)))) | exact .h (.s (.s (.s (.s (.s .z))))) | exact .h (.s (.s (.s (.s (.s (.s .z)))))) | exact .h (.s (.s (.s (.s (.s (.s (.s .z))))))) | exact .h (.s (.s (.s (.s (.s (.s (.s (.s .z)))))))) | exact .x .z | exact .x (.s .z) | exact .x (.s (.s .z)) | exact .x (.s (.s (.s .z))) | exact .x (.s (.s (.s (.s .z)))) | exact .x (.s (.s (.s (.s (.s .z))))) | exact .x (.s (.s (.s (.s (.s (.s .z))))))) (by first | rfl | exact gC (by omega) | exact takeC (by omega) | exact takeC0 (by omega))) ?_
  refine q_callV cb_18 rfl rfl rfl rfl rfl (toVoyage _ _ (by assumption)) (by repeat (first | exact .z | refine .s (.h .z) ?_ | refine .s (.h (.s .z)) ?_ | refine .s (.h (.s (.s .z))) ?_ | refine .s (.h (.s (.s (.s .z)))) ?_ | refine .s (.h (.s (.s (.s (.s .z))))) ?_ | refine .s (.h (.s (.s (.s (.s (.s .z)))))) ?_ | refine .s (.h (.s (.s (.s (.s (.s (.s .z))))))) ?_ | refine .s (.h (.s (.s (.s (.s (.s (.s (.s .z)))))))) ?_ | refine .s (.h (.s (.s (.s (.s (.s (.s (.s (.s .z))))))))) ?_ | refine .s (.x .z) ?_ | refine .s (.x (.s .z)) ?_ | refine .s (.x (.s (.s .z))) ?_ | refine .s (.x (.s (.s (.s .z)))) ?_ | refine .s (.x (.s (.s (.s (.s .z))))) ?_ | refine .s (.x (.s (.s (.s (.s (.s .z)))))) ?_ | refine .s (.x (.s (.s (.s (.s (.s (.s .z))))))) ?_)) ?_
  refine q_pure rfl rfl (p_move rfl) ?_
  refine q_pure rfl rfl (p_move rfl) ?_
  refine q_pure rfl rfl (p_loadA ag_53 sz_53 rfl (by first | exact .h .z | exact .h (.s .z) | exact .h (.s (.s .z)) | exact .h (.s (.s (.s .z))) | exact .h (.s (.s (.s (.s .z)))) | exact .h (.s (.s (.s (.s (.s .z))))) | exact .h (.s (.s (.s (.s (.s (.s .z)))))) | exact .h (.s (.s (.s (.s (.s (.s (.s .z))))))) | exact .h (.s (.s (.s (.s (.s (.s (.s (.s .z)))))))) | exact .x .z | exact .x (.s .z) | exact .x (.s (.s .z)) | exact .x (.s (.s (.s .z))) | exact .x (.s (.s (.s (.s .z)))) | exact .x (.s (.s (.s (.s (.s .z))))) | exact .x (.s (.s (.s (.s (.s (.s .z))))))) (by first | rfl | exact gC (by omega) | exact takeC (by omega) | exact takeC0 (by omega))) ?_
  refine q_callV cb_46 rfl rfl rfl rfl rfl (toCrate _ _ (by assumption)) (by repeat (first | exact .z | refine .s (.h .z) ?_ | refine .s (.h (.s .z)) ?_ | refine .s (.h (.s (.s .z))) ?_ | refine .s (.h (.s (.s (.s .z)))) ?_ | refine .s (.h (.s (.s (.s (.s .z))))) ?_ | refine .s (.h (.s (.s (.s (.s (.s .z)))))) ?_ | refine .s (.h (.s (.s (.s (.s (.s (.s .z))))))) ?_ | refine .s (.h (.s (.s (.s (.s (.s (.s (.s .z)))))))) ?_ | refine .s (.h (.s (.s (.s (.s (.s (.s (.s (.s .z))))))))) ?_ | refine .s (.x .z) ?_ | refine .s (.x (.s .z)) ?_ | refine .s (.x (.s (.s .z))) ?_ | refine .s (.x (.s (.s (.s .z)))) ?_ | refine .s (.x (.s (.s (.s (.s .z))))) ?_ | refine .s (.x (.s (.s (.s (.s (.s .z)))))) ?_ | refine .s (.x (.s (.s (.s (.s (.s (.s .z))))))) ?_)) ?_
  refine q_pure rfl rfl (p_move rfl) ?_
  refine q_pure rfl rfl (p_move rfl) ?_
  refine q_nil ?_
  refine R_drs (by kernel_rfl) rfl ?_
  refine r_callR cb_49 rfl rfl rfl rfl rfl (spec_EL_ok n rs hl hn m fs hf hm c g lo hi hok hlh) (by repeat (first | exact .z | refine .s (.h .z) ?_ | refine .s (.h (.s .z)) ?_ | refine .s (.h (.s (.s .z))) ?_ | refine .s (.h (.s (.s (.s .z)))) ?_ | refine .s (.h (.s (.s (.s (.s .z))))) ?_ | refine .s (.h (.s (.s (.s (.s (.s .z)))))) ?_ | refine .s (.h (.s (.s (.s (.s (.s (.s .z))))))) ?_ | refine .s (.h (.s (.s (.s (.s (.s (.s (.s .z)))))))) ?_ | refine .s (.h (.s (.s (.s (.s (.s (.s (.s (.s .z))))))))) ?_ | refine .s (.x .z) ?_ | refine .s (.x (.s .z)) ?_ | refine .s (.x (.s (.s .z))) ?_ | refine .s (.x (.s (.s (.s .z)))) ?_ | refine .s (.x (.s (.s (.s (.s .z))))) ?_ | refine .s (.x (.s (.s (.s (.s (.s .z)))))) ?_ | refine .s (.x (.s (.s (.s (.s (.s (.s .z))))))) ?_)) ?_
  rintro _ _ ⟨pS, qS, rfl, hpS, hqS, rfl⟩
  refine R_nil ?_
  refine R_drq 9 16 (by kernel_rfl) ?_
  refine q_pure rfl rfl (p_move rfl) ?_
  refine q_pure rfl rfl (p_extract rfl rfl) ?_
  refine q_pure rfl rfl (p_extract rfl rfl) ?_
  refine q_pure rfl rfl (p_extract rfl rfl) ?_
  refine q_pure rfl rfl (p_assign rfl) ?_
  refine q_pure rfl rfl (p_assign rfl) ?_
  refine q_pure rfl rfl (p_assign rfl) ?_
  refine q_nil ?_
  refine R_drz (by kernel_rfl) ?_
  refine K_tn ?_
  refine K_seq ?_
  refine R_dr0 mixed ?_
  refine R_drq 0 8 (by kernel_rfl) ?_
  refine q_pure rfl rfl (p_loadA ag_26 sz_26 rfl (by first | exact .h .z | exact .h (.s .z) | exact .h (.s (.s .z)) | exact .h (.s (.s (.s .z))) | exact .h (.s (.s (.s (.s .z)))) | exact .h (.s (.s (.s (.s (.s .z))))) | exact .h (.s (.s (.s (.s (.s (.s .z)))))) | exact .h (.s (.s (.s (.s (.s (.s (.s .z))))))) | exact .h (.s (.s (.s (.s (.s (.s (.s (.s .z)))))))) | exact .x .z | exact .x (.s .z) | exact .x (.s (.s .z)) | exact .x (.s (.s (.s .z))) | exact .x (.s (.s (.s (.s .z)))) | exact .x (.s (.s (.s (.s (.s .z))))) | exact .x (.s (.s (.s (.s (.s (.s .z))))))) (by first | rfl | exact gC (by omega) | exact takeC (by omega) | exact takeC0 (by omega))) ?_
  refine q_callV cb_18 rfl rfl rfl rfl rfl (toVoyage _ _ (by assumption)) (by repeat (first | exact .z | refine .s (.h .z) ?_ | refine .s (.h (.s .z)) ?_ | refine .s (.h (.s (.s .z))) ?_ | refine .s (.h (.s (.s (.s .z)))) ?_ | refine .s (.h (.s (.s (.s (.s .z))))) ?_ | refine .s (.h (.s (.s (.s (.s (.s .z)))))) ?_ | refine .s (.h (.s (.s (.s (.s (.s (.s .z))))))) ?_ | refine .s (.h (.s (.s (.s (.s (.s (.s (.s .z)))))))) ?_ | refine .s (.h (.s (.s (.s (.s (.s (.s (.s (.s .z))))))))) ?_ | refine .s (.x .z) ?_ | refine .s (.x (.s .z)) ?_ | refine .s (.x (.s (.s .z))) ?_ | refine .s (.x (.s (.s (.s .z)))) ?_ | refine .s (.x (.s (.s (.s (.s .z))))) ?_ | refine .s (.x (.s (.s (.s (.s (.s .z)))))) ?_ | refine .s (.x (.s (.s (.s (.s (.s (.s .z))))))) ?_)) ?_
  refine q_pure rfl rfl (p_move rfl) ?_
  refine q_pure rfl rfl (p_move rfl) ?_
  refine q_pure rfl rfl (p_loadA ag_53 sz_53 rfl (by first | exact .h .z | exact .h (.s .z) | exact .h (.s (.s .z)) | exact .h (.s (.s (.s .z))) | exact .h (.s (.s (.s (.s .z)))) | exact .h (.s (.s (.s (.s (.s .z))))) | exact .h (.s (.s (.s (.s (.s (.s .z)))))) | exact .h (.s (.s (.s (.s (.s (.s (.s .z))))))) | exact .h (.s (.s (.s (.s (.s (.s (.s (.s .z)))))))) | exact .x .z | exact .x (.s .z) | exact .x (.s (.s .z)) | exact .x (.s (.s (.s .z))) | exact .x (.s (.s (.s (.s .z)))) | exact .x (.s (.s (.s (.s (.s .z))))) | exact .x (.s (.s (.s (.s (.s (.s .z))))))) (by first | rfl | exact gC (by omega) | exact takeC (by omega) | exact takeC0 (by omega))) ?_
  refine q_callV cb_46 rfl rfl rfl rfl rfl (toCrate _ _ (by assumption)) (by repeat (first | exact .z | refine .s (.h .z) ?_ | refine .s (.h (.s .z)) ?_ | refine .s (.h (.s (.s .z))) ?_ | refine .s (.h (.s (.s (.s .z)))) ?_ | refine .s (.h (.s (.s (.s (.s .z))))) ?_ | refine .s (.h (.s (.s (.s (.s (.s .z)))))) ?_ | refine .s (.h (.s (.s (.s (.s (.s (.s .z))))))) ?_ | refine .s (.h (.s (.s (.s (.s (.s (.s (.s .z)))))))) ?_ | refine .s (.h (.s (.s (.s (.s (.s (.s (.s (.s .z))))))))) ?_ | refine .s (.x .z) ?_ | refine .s (.x (.s .z)) ?_ | refine .s (.x (.s (.s .z))) ?_ | refine .s (.x (.s (.s (.s .z)))) ?_ | refine .s (.x (.s (.s (.s (.s .z))))) ?_ | refine .s (.x (.s (.s (.s (.s (.s .z)))))) ?_ | refine .s (.x (.s (.s (.s (.s (.s (.s .z))))))) ?_)) ?_
  refine q_pure rfl rfl (p_move rfl) ?_
  refine q_pure rfl rfl (p_move rfl) ?_
  refine q_nil ?_
  refine R_drs (by kernel_rfl) rfl ?_
  refine r_callR cb_50 rfl rfl rfl rfl rfl (impl_EL_ok n rs hl hn m fs hf hm c g lo hi hok hlh) (by repeat (first | exact .z | refine .s (.h .z) ?_ | refine .s (.h (.s .z)) ?_ | refine .s (.h (.s (.s .z))) ?_ | refine .s (.h (.s (.s (.s .z)))) ?_ | refine .s (.h (.s (.s (.s (.s .z))))) ?_ | refine .s (.h (.s (.s (.s (.s (.s .z)))))) ?_ | refine .s (.h (.s (.s (.s (.s (.s (.s .z))))))) ?_ | refine .s (.h (.s (.s (.s (.s (.s (.s (.s .z)))))))) ?_ | refine .s (.h (.s (.s (.s (.s (.s (.s (.s (.s .z))))))))) ?_ | refine .s (.x .z) ?_ | refine .s (.x (.s .z)) ?_ | refine .s (.x (.s (.s .z))) ?_ | refine .s (.x (.s (.s (.s .z)))) ?_ | refine .s (.x (.s (.s (.s (.s .z))))) ?_ | refine .s (.x (.s (.s (.s (.s (.s .z)))))) ?_ | refine .s (.x (.s (.s (.s (.s (.s (.s .z))))))) ?_)) ?_
  rintro _ _ ⟨pI, qI, rfl, hpI, hqI, rfl⟩
  refine R_nil ?_
  refine R_drq 9 16 (by kernel_rfl) ?_
  refine q_pure rfl rfl (p_move rfl) ?_
  refine q_pure rfl rfl (p_extract rfl rfl) ?_
  refine q_pure rfl rfl (p_extract rfl rfl) ?_
  refine q_pure rfl rfl (p_extract rfl rfl) ?_
  refine q_pure rfl rfl (p_assign rfl) ?_
  refine q_pure rfl rfl (p_assign rfl) ?_
  refine q_pure rfl rfl (p_assign rfl) ?_
  refine q_nil ?_
  refine R_drz (by kernel_rfl) ?_
  refine K_tn ?_
  refine K_seq ?_
  refine K_seq ?_
  refine R_region ?_
  refine r_move rfl rfl rfl ?_
  refine r_move rfl rfl rfl ?_
  refine s_callV cb_51 rfl rfl rfl rfl rfl (eqI _ _ _ _ _ (filterI m (isEarly (arrF n rs c g) fs hi)) _ _ _ _ _ _ rfl (by omega)) (by repeat (first | exact .z | refine .s (.h .z) ?_ | refine .s (.h (.s .z)) ?_ | refine .s (.h (.s (.s .z))) ?_ | refine .s (.h (.s (.s (.s .z)))) ?_ | refine .s (.h (.s (.s (.s (.s .z))))) ?_ | refine .s (.h (.s (.s (.s (.s (.s .z)))))) ?_ | refine .s (.h (.s (.s (.s (.s (.s (.s .z))))))) ?_ | refine .s (.h (.s (.s (.s (.s (.s (.s (.s .z)))))))) ?_ | refine .s (.h (.s (.s (.s (.s (.s (.s (.s (.s .z))))))))) ?_ | refine .s (.x .z) ?_ | refine .s (.x (.s .z)) ?_ | refine .s (.x (.s (.s .z))) ?_ | refine .s (.x (.s (.s (.s .z)))) ?_ | refine .s (.x (.s (.s (.s (.s .z))))) ?_ | refine .s (.x (.s (.s (.s (.s (.s .z)))))) ?_ | refine .s (.x (.s (.s (.s (.s (.s (.s .z))))))) ?_)) (fun h52 => ?_) (fun h52 => ?_)
  · first
    | (exfalso; first | omega | (simp_all; done))
    |
      refine r_not rfl rfl rfl ?_
      refine r_move rfl rfl rfl ?_
      refine r_move rfl rfl rfl ?_
      refine r_move rfl rfl rfl ?_
      refine s_callV cb_51 rfl rfl rfl rfl rfl (eqI _ _ _ _ _ (filterI m (isLate (arrF n rs c g) fs lo)) _ _ _ _ _ _ rfl (by omega)) (by repeat (first | exact .z | refine .s (.h .z) ?_ | refine .s (.h (.s .z)) ?_ | refine .s (.h (.s (.s .z))) ?_ | refine .s (.h (.s (.s (.s .z)))) ?_ | refine .s (.h (.s (.s (.s (.s .z))))) ?_ | refine .s (.h (.s (.s (.s (.s (.s .z)))))) ?_ | refine .s (.h (.s (.s (.s (.s (.s (.s .z))))))) ?_ | refine .s (.h (.s (.s (.s (.s (.s (.s (.s .z)))))))) ?_ | refine .s (.h (.s (.s (.s (.s (.s (.s (.s (.s .z))))))))) ?_ | refine .s (.x .z) ?_ | refine .s (.x (.s .z)) ?_ | refine .s (.x (.s (.s .z))) ?_ | refine .s (.x (.s (.s (.s .z)))) ?_ | refine .s (.x (.s (.s (.s (.s .z))))) ?_ | refine .s (.x (.s (.s (.s (.s (.s .z)))))) ?_ | refine .s (.x (.s (.s (.s (.s (.s (.s .z))))))) ?_)) (fun h57 => ?_) (fun h57 => ?_)
      · first
        | (exfalso; first | omega | (simp_all; done))
        |
          refine r_not rfl rfl rfl ?_
          refine r_pick_f rfl rfl rfl rfl ?_
          refine r_move rfl rfl rfl ?_
          refine r_move rfl rfl rfl ?_
          refine r_move rfl rfl rfl ?_
          refine s_neq rfl rfl rfl rfl (fun h63 => ?_) (fun h63 => ?_)
          · first
            | (exfalso; first | omega | (simp_all; done))
            |
              refine r_pick_f rfl rfl rfl rfl ?_
              refine R_nil ?_
              refine K_tn ?_
              refine K_cond_t rfl ?_
              refine K_seq ?_
              refine R_region ?_
              refine r_assign rfl rfl rfl ?_
              refine R_nil ?_
              refine K_tn ?_
              refine K_ret ?_
              refine K_tr ?_
              refine K_done (H' := []) rfl rfl (.s (.tmp rfl) .z) (by repeat (first | exact .z | apply Rems.s Rem.z | apply Rems.s (Rem.s Rem.z) | apply Rems.s (Rem.s (Rem.s Rem.z)) | apply Rems.s (Rem.s (Rem.s (Rem.s Rem.z))) | apply Rems.s (Rem.s (Rem.s (Rem.s (Rem.s Rem.z)))) | apply Rems.s (Rem.s (Rem.s (Rem.s (Rem.s (Rem.s Rem.z))))) | apply Rems.s (Rem.s (Rem.s (Rem.s (Rem.s (Rem.s (Rem.s Rem.z)))))) | apply Rems.s (Rem.s (Rem.s (Rem.s (Rem.s (Rem.s (Rem.s (Rem.s Rem.z))))))) | apply Rems.s (Rem.s (Rem.s (Rem.s (Rem.s (Rem.s (Rem.s (Rem.s (Rem.s Rem.z)))))))) | apply Rems.s (Rem.s (Rem.s (Rem.s (Rem.s (Rem.s (Rem.s (Rem.s (Rem.s (Rem.s Rem.z))))))))))) ?_
              refine ⟨?_, rfl⟩
              rfl
          · first
            | (exfalso; first | omega | (simp_all; done))
            |
              refine r_pick_f rfl rfl rfl rfl ?_
              refine R_nil ?_
              refine K_tn ?_
              refine K_cond_f rfl ?_
              refine K_skip ?_
              refine K_tn ?_
              refine K_seq ?_
              refine R_region ?_
              refine r_assign rfl rfl rfl ?_
              refine R_nil ?_
              refine K_tn ?_
              refine K_seq ?_
              refine R_region ?_
              refine r_move rfl rfl rfl ?_
              refine r_move rfl rfl rfl ?_
              refine r_callM cb_52 rfl rfl rfl rfl rfl (markI _ _ _ 1 (filterI m (isEarly (arrF n rs c g) fs hi)) _ _ rfl (by omega)) (by repeat (first | exact .z | apply Rems.s Rem.z | apply Rems.s (Rem.s Rem.z) | apply Rems.s (Rem.s (Rem.s Rem.z)) | apply Rems.s (Rem.s (Rem.s (Rem.s Rem.z))) | apply Rems.s (Rem.s (Rem.s (Rem.s (Rem.s Rem.z)))) | apply Rems.s (Rem.s (Rem.s (Rem.s (Rem.s (Rem.s Rem.z))))) | apply Rems.s (Rem.s (Rem.s (Rem.s (Rem.s (Rem.s (Rem.s Rem.z)))))) | apply Rems.s (Rem.s (Rem.s (Rem.s (Rem.s (Rem.s (Rem.s (Rem.s Rem.z))))))) | apply Rems.s (Rem.s (Rem.s (Rem.s (Rem.s (Rem.s (Rem.s (Rem.s (Rem.s Rem.z)))))))) | apply Rems.s (Rem.s (Rem.s (Rem.s (Rem.s (Rem.s (Rem.s (Rem.s (Rem.s (Rem.s Rem.z))))))))))) (by repeat (first | exact .z | refine .s (.h .z) ?_ | refine .s (.h (.s .z)) ?_ | refine .s (.h (.s (.s .z))) ?_ | refine .s (.h (.s (.s (.s .z)))) ?_ | refine .s (.h (.s (.s (.s (.s .z))))) ?_ | refine .s (.h (.s (.s (.s (.s (.s .z)))))) ?_ | refine .s (.h (.s (.s (.s (.s (.s (.s .z))))))) ?_ | refine .s (.h (.s (.s (.s (.s (.s (.s (.s .z)))))))) ?_ | refine .s (.h (.s (.s (.s (.s (.s (.s (.s (.s .z))))))))) ?_ | refine .s (.x .z) ?_ | refine .s (.x (.s .z)) ?_ | refine .s (.x (.s (.s .z))) ?_ | refine .s (.x (.s (.s (.s .z)))) ?_ | refine .s (.x (.s (.s (.s (.s .z))))) ?_ | refine .s (.x (.s (.s (.s (.s (.s .z)))))) ?_ | refine .s (.x (.s (.s (.s (.s (.s (.s .z))))))) ?_)) ?_
              rintro _ _ ⟨rfl, rfl⟩
              refine r_assign rfl rfl rfl ?_
              refine R_nil ?_
              refine K_tn ?_
              refine K_seq ?_
              refine R_region ?_
              refine r_move rfl rfl rfl ?_
              refine r_move rfl rfl rfl ?_
              refine r_callM cb_52 rfl rfl rfl rfl rfl (markI _ _ _ (1 + (filterI m (isEarly (arrF n rs c g) fs hi)).length) (filterI m (isLate (arrF n rs c g) fs lo)) _ _ rfl (by omega)) (by repeat (first | exact .z | apply Rems.s Rem.z | apply Rems.s (Rem.s Rem.z) | apply Rems.s (Rem.s (Rem.s Rem.z)) | apply Rems.s (Rem.s (Rem.s (Rem.s Rem.z))) | apply Rems.s (Rem.s (Rem.s (Rem.s (Rem.s Rem.z)))) | apply Rems.s (Rem.s (Rem.s (Rem.s (Rem.s (Rem.s Rem.z))))) | apply Rems.s (Rem.s (Rem.s (Rem.s (Rem.s (Rem.s (Rem.s Rem.z)))))) | apply Rems.s (Rem.s (Rem.s (Rem.s (Rem.s (Rem.s (Rem.s (Rem.s Rem.z))))))) | apply Rems.s (Rem.s (Rem.s (Rem.s (Rem.s (Rem.s (Rem.s (Rem.s (Rem.s Rem.z)))))))) | apply Rems.s (Rem.s (Rem.s (Rem.s (Rem.s (Rem.s (Rem.s (Rem.s (Rem.s (Rem.s Rem.z))))))))))) (by repeat (first | exact .z | refine .s (.h .z) ?_ | refine .s (.h (.s .z)) ?_ | refine .s (.h (.s (.s .z))) ?_ | refine .s (.h (.s (.s (.s .z)))) ?_ | refine .s (.h (.s (.s (.s (.s .z))))) ?_ | refine .s (.h (.s (.s (.s (.s (.s .z)))))) ?_ | refine .s (.h (.s (.s (.s (.s (.s (.s .z))))))) ?_ | refine .s (.h (.s (.s (.s (.s (.s (.s (.s .z)))))))) ?_ | refine .s (.h (.s (.s (.s (.s (.s (.s (.s (.s .z))))))))) ?_ | refine .s (.x .z) ?_ | refine .s (.x (.s .z)) ?_ | refine .s (.x (.s (.s .z))) ?_ | refine .s (.x (.s (.s (.s .z)))) ?_ | refine .s (.x (.s (.s (.s (.s .z))))) ?_ | refine .s (.x (.s (.s (.s (.s (.s .z)))))) ?_ | refine .s (.x (.s (.s (.s (.s (.s (.s .z))))))) ?_)) ?_
              rintro _ _ ⟨rfl, rfl⟩
              refine r_assign rfl rfl rfl ?_
              refine R_nil ?_
              refine K_tn ?_
              refine K_seq ?_
              refine R_region ?_
              refine r_assign rfl rfl rfl ?_
              refine R_nil ?_
              refine K_tn ?_
              refine K_seq ?_
              refine R_region ?_
              refine r_move rfl rfl rfl ?_
              refine r_move rfl rfl rfl ?_
              refine r_callV cb_53 rfl rfl rfl rfl rfl (heldI _ _ _ 1 _ _ _ (by omega)) (by repeat (first | exact .z | refine .s (.h .z) ?_ | refine .s (.h (.s .z)) ?_ | refine .s (.h (.s (.s .z))) ?_ | refine .s (.h (.s (.s (.s .z)))) ?_ | refine .s (.h (.s (.s (.s (.s .z))))) ?_ | refine .s (.h (.s (.s (.s (.s (.s .z)))))) ?_ | refine .s (.h (.s (.s (.s (.s (.s (.s .z))))))) ?_ | refine .s (.h (.s (.s (.s (.s (.s (.s (.s .z)))))))) ?_ | refine .s (.h (.s (.s (.s (.s (.s (.s (.s (.s .z))))))))) ?_ | refine .s (.x .z) ?_ | refine .s (.x (.s .z)) ?_ | refine .s (.x (.s (.s .z))) ?_ | refine .s (.x (.s (.s (.s .z)))) ?_ | refine .s (.x (.s (.s (.s (.s .z))))) ?_ | refine .s (.x (.s (.s (.s (.s (.s .z)))))) ?_ | refine .s (.x (.s (.s (.s (.s (.s (.s .z))))))) ?_)) ?_
              refine r_assign rfl rfl rfl ?_
              refine R_nil ?_
              refine K_tn ?_
              refine K_seq ?_
              refine K_seq ?_
              refine R_region ?_
              refine r_move rfl rfl rfl ?_
              refine s_lss rfl rfl rfl rfl (fun h75 => ?_) (fun h75 => ?_)
              · first
                | (exfalso; first | omega | (simp_all; done))
                |
                  refine R_nil ?_
                  refine K_tn ?_
                  refine K_cond_t rfl ?_
                  refine K_seq ?_
                  refine R_region ?_
                  refine r_assign rfl rfl rfl ?_
                  refine R_nil ?_
                  refine K_tn ?_
                  refine K_ret ?_
                  refine K_tr ?_
                  refine K_done (H' := []) rfl rfl (.s (.tmp rfl) .z) (by repeat (first | exact .z | apply Rems.s Rem.z | apply Rems.s (Rem.s Rem.z) | apply Rems.s (Rem.s (Rem.s Rem.z)) | apply Rems.s (Rem.s (Rem.s (Rem.s Rem.z))) | apply Rems.s (Rem.s (Rem.s (Rem.s (Rem.s Rem.z)))) | apply Rems.s (Rem.s (Rem.s (Rem.s (Rem.s (Rem.s Rem.z))))) | apply Rems.s (Rem.s (Rem.s (Rem.s (Rem.s (Rem.s (Rem.s Rem.z)))))) | apply Rems.s (Rem.s (Rem.s (Rem.s (Rem.s (Rem.s (Rem.s (Rem.s Rem.z))))))) | apply Rems.s (Rem.s (Rem.s (Rem.s (Rem.s (Rem.s (Rem.s (Rem.s (Rem.s Rem.z)))))))) | apply Rems.s (Rem.s (Rem.s (Rem.s (Rem.s (Rem.s (Rem.s (Rem.s (Rem.s (Rem.s Rem.z))))))))))) ?_
                  refine ⟨?_, rfl⟩
                  rfl
              · first
                | (exfalso; first | omega | (simp_all; done))
                |
                  refine R_nil ?_
                  refine K_tn ?_
                  refine K_cond_f rfl ?_
                  refine K_skip ?_
                  refine K_tn ?_
                  refine K_seq ?_
                  refine R_region ?_
                  refine r_move rfl rfl rfl ?_
                  refine r_move rfl rfl rfl ?_
                  refine r_callV cb_53 rfl rfl rfl rfl rfl (heldI _ _ _ (1 + (filterI m (isEarly (arrF n rs c g) fs hi)).length) _ _ _ (by omega)) (by repeat (first | exact .z | refine .s (.h .z) ?_ | refine .s (.h (.s .z)) ?_ | refine .s (.h (.s (.s .z))) ?_ | refine .s (.h (.s (.s (.s .z)))) ?_ | refine .s (.h (.s (.s (.s (.s .z))))) ?_ | refine .s (.h (.s (.s (.s (.s (.s .z)))))) ?_ | refine .s (.h (.s (.s (.s (.s (.s (.s .z))))))) ?_ | refine .s (.h (.s (.s (.s (.s (.s (.s (.s .z)))))))) ?_ | refine .s (.h (.s (.s (.s (.s (.s (.s (.s (.s .z))))))))) ?_ | refine .s (.x .z) ?_ | refine .s (.x (.s .z)) ?_ | refine .s (.x (.s (.s .z))) ?_ | refine .s (.x (.s (.s (.s .z)))) ?_ | refine .s (.x (.s (.s (.s (.s .z))))) ?_ | refine .s (.x (.s (.s (.s (.s (.s .z)))))) ?_ | refine .s (.x (.s (.s (.s (.s (.s (.s .z))))))) ?_)) ?_
                  refine r_assign rfl rfl rfl ?_
                  refine R_nil ?_
                  refine K_tn ?_
                  refine K_seq ?_
                  refine K_seq ?_
                  refine R_region ?_
                  refine r_move rfl rfl rfl ?_
                  refine s_lss rfl rfl rfl rfl (fun h80 => ?_) (fun h80 => ?_)
                  · first
                    | (exfalso; first | omega | (simp_all; done))
                    |
                      refine R_nil ?_
                      refine K_tn ?_
                      refine K_cond_t rfl ?_
                      refine K_seq ?_
                      refine R_region ?_
                      refine r_assign rfl rfl rfl ?_
                      refine R_nil ?_
                      refine K_tn ?_
                      refine K_ret ?_
                      refine K_tr ?_
                      refine K_done (H' := []) rfl rfl (.s (.tmp rfl) .z) (by repeat (first | exact .z | apply Rems.s Rem.z | apply Rems.s (Rem.s Rem.z) | apply Rems.s (Rem.s (Rem.s Rem.z)) | apply Rems.s (Rem.s (Rem.s (Rem.s Rem.z))) | apply Rems.s (Rem.s (Rem.s (Rem.s (Rem.s Rem.z)))) | apply Rems.s (Rem.s (Rem.s (Rem.s (Rem.s (Rem.s Rem.z))))) | apply Rems.s (Rem.s (Rem.s (Rem.s (Rem.s (Rem.s (Rem.s Rem.z)))))) | apply Rems.s (Rem.s (Rem.s (Rem.s (Rem.s (Rem.s (Rem.s (Rem.s Rem.z))))))) | apply Rems.s (Rem.s (Rem.s (Rem.s (Rem.s (Rem.s (Rem.s (Rem.s (Rem.s Rem.z)))))))) | apply Rems.s (Rem.s (Rem.s (Rem.s (Rem.s (Rem.s (Rem.s (Rem.s (Rem.s (Rem.s Rem.z))))))))))) ?_
                      refine ⟨?_, rfl⟩
                      rfl
                  · first
                    | (exfalso; first | omega | (simp_all; done))
                    |
                      refine R_nil ?_
                      refine K_tn ?_
                      refine K_cond_f rfl ?_
                      refine K_skip ?_
                      refine K_tn ?_
                      refine K_seq ?_
                      refine K_seq ?_
                      refine R_region ?_
                      refine r_move rfl rfl rfl ?_
                      refine r_move rfl rfl rfl ?_
                      refine s_neq rfl rfl rfl rfl (fun h83 => ?_) (fun h83 => ?_)
                      · first
                        | (exfalso; first | omega | (simp_all; done))
                        |
                          refine R_nil ?_
                          refine K_tn ?_
                          refine K_cond_t rfl ?_
                          refine K_seq ?_
                          refine R_region ?_
                          refine r_assign rfl rfl rfl ?_
                          refine R_nil ?_
                          refine K_tn ?_
                          refine K_ret ?_
                          refine K_tr ?_
                          refine K_done (H' := []) rfl rfl (.s (.tmp rfl) .z) (by repeat (first | exact .z | apply Rems.s Rem.z | apply Rems.s (Rem.s Rem.z) | apply Rems.s (Rem.s (Rem.s Rem.z)) | apply Rems.s (Rem.s (Rem.s (Rem.s Rem.z))) | apply Rems.s (Rem.s (Rem.s (Rem.s (Rem.s Rem.z)))) | apply Rems.s (Rem.s (Rem.s (Rem.s (Rem.s (Rem.s Rem.z))))) | apply Rems.s (Rem.s (Rem.s (Rem.s (Rem.s (Rem.s (Rem.s Rem.z)))))) | apply Rems.s (Rem.s (Rem.s (Rem.s (Rem.s (Rem.s (Rem.s (Rem.s Rem.z))))))) | apply Rems.s (Rem.s (Rem.s (Rem.s (Rem.s (Rem.s (Rem.s (Rem.s (Rem.s Rem.z)))))))) | apply Rems.s (Rem.s (Rem.s (Rem.s (Rem.s (Rem.s (Rem.s (Rem.s (Rem.s (Rem.s Rem.z))))))))))) ?_
                          refine ⟨?_, rfl⟩
                          rfl
                      · first
                        | (exfalso; first | omega | (simp_all; done))
                        |
                          refine R_nil ?_
                          refine K_tn ?_
                          refine K_cond_f rfl ?_
                          refine K_skip ?_
                          refine K_tn ?_
                          refine K_seq ?_
                          refine R_dr0 mixed ?_
                          refine R_drq 0 8 (by kernel_rfl) ?_
                          refine q_pure rfl rfl (p_loadA ag_26 sz_26 rfl (by first | exact .h .z | exact .h (.s .z) | exact .h (.s (.s .z)) | exact .h (.s (.s (.s .z))) | exact .h (.s (.s (.s (.s .z)))) | exact .h (.s (.s (.s (.s (.s .z))))) | exact .h (.s (.s (.s (.s (.s (.s .z)))))) | exact .h (.s (.s (.s (.s (.s (.s (.s .z))))))) | exact .h (.s (.s (.s (.s (.s (.s (.s (.s .z)))))))) | exact .x .z | exact .x (.s .z) | exact .x (.s (.s .z)) | exact .x (.s (.s (.s .z))) | exact .x (.s (.s (.s (.s .z)))) | exact .x (.s (.s (.s (.s (.s .z))))) | exact .x (.s (.s (.s (.s (.s (.s .z))))))) (by first | rfl | exact gC (by omega) | exact takeC (by omega) | exact takeC0 (by omega))) ?_
                          refine q_callV cb_18 rfl rfl rfl rfl rfl (toVoyage _ _ (by assumption)) (by repeat (first | exact .z | refine .s (.h .z) ?_ | refine .s (.h (.s .z)) ?_ | refine .s (.h (.s (.s .z))) ?_ | refine .s (.h (.s (.s (.s .z)))) ?_ | refine .s (.h (.s (.s (.s (.s .z))))) ?_ | refine .s (.h (.s (.s (.s (.s (.s .z)))))) ?_ | refine .s (.h (.s (.s (.s (.s (.s (.s .z))))))) ?_ | refine .s (.h (.s (.s (.s (.s (.s (.s (.s .z)))))))) ?_ | refine .s (.h (.s (.s (.s (.s (.s (.s (.s (.s .z))))))))) ?_ | refine .s (.x .z) ?_ | refine .s (.x (.s .z)) ?_ | refine .s (.x (.s (.s .z))) ?_ | refine .s (.x (.s (.s (.s .z)))) ?_ | refine .s (.x (.s (.s (.s (.s .z))))) ?_ | refine .s (.x (.s (.s (.s (.s (.s .z)))))) ?_ | refine .s (.x (.s (.s (.s (.s (.s (.s .z))))))) ?_)) ?_
                          refine q_pure rfl rfl (p_move rfl) ?_
                          refine q_pure rfl rfl (p_move rfl) ?_
                          refine q_pure rfl rfl (p_loadA ag_53 sz_53 rfl (by first | exact .h .z | exact .h (.s .z) | exact .h (.s (.s .z)) | exact .h (.s (.s (.s .z))) | exact .h (.s (.s (.s (.s .z)))) | exact .h (.s (.s (.s (.s (.s .z))))) | exact .h (.s (.s (.s (.s (.s (.s .z)))))) | exact .h (.s (.s (.s (.s (.s (.s (.s .z))))))) | exact .h (.s (.s (.s (.s (.s (.s (.s (.s .z)))))))) | exact .x .z | exact .x (.s .z) | exact .x (.s (.s .z)) | exact .x (.s (.s (.s .z))) | exact .x (.s (.s (.s (.s .z)))) | exact .x (.s (.s (.s (.s (.s .z))))) | exact .x (.s (.s (.s (.s (.s (.s .z))))))) (by first | rfl | exact gC (by omega) | exact takeC (by omega) | exact takeC0 (by omega))) ?_
                          refine q_callV cb_46 rfl rfl rfl rfl rfl (toCrate _ _ (by assumption)) (by repeat (first | exact .z | refine .s (.h .z) ?_ | refine .s (.h (.s .z)) ?_ | refine .s (.h (.s (.s .z))) ?_ | refine .s (.h (.s (.s (.s .z)))) ?_ | refine .s (.h (.s (.s (.s (.s .z))))) ?_ | refine .s (.h (.s (.s (.s (.s (.s .z)))))) ?_ | refine .s (.h (.s (.s (.s (.s (.s (.s .z))))))) ?_ | refine .s (.h (.s (.s (.s (.s (.s (.s (.s .z)))))))) ?_ | refine .s (.h (.s (.s (.s (.s (.s (.s (.s (.s .z))))))))) ?_ | refine .s (.x .z) ?_ | refine .s (.x (.s .z)) ?_ | refine .s (.x (.s (.s .z))) ?_ | refine .s (.x (.s (.s (.s .z)))) ?_ | refine .s (.x (.s (.s (.s (.s .z))))) ?_ | refine .s (.x (.s (.s (.s (.s (.s .z)))))) ?_ | refine .s (.x (.s (.s (.s (.s (.s (.s .z))))))) ?_)) ?_
                          refine q_pure rfl rfl (p_move rfl) ?_
                          refine q_pure rfl rfl (p_move rfl) ?_
                          refine q_nil ?_
                          refine R_drs (by kernel_rfl) rfl ?_
                          refine r_callR cb_50 rfl rfl rfl rfl rfl (impl_EL_ok n rs hl hn m fs hf hm c g lo hi hok hlh) (by repeat (first | exact .z | refine .s (.h .z) ?_ | refine .s (.h (.s .z)) ?_ | refine .s (.h (.s (.s .z))) ?_ | refine .s (.h (.s (.s (.s .z)))) ?_ | refine .s (.h (.s (.s (.s (.s .z))))) ?_ | refine .s (.h (.s (.s (.s (.s (.s .z)))))) ?_ | refine .s (.h (.s (.s (.s (.s (.s (.s .z))))))) ?_ | refine .s (.h (.s (.s (.s (.s (.s (.s (.s .z)))))))) ?_ | refine .s (.h (.s (.s (.s (.s (.s (.s (.s (.s .z))))))))) ?_ | refine .s (.x .z) ?_ | refine .s (.x (.s .z)) ?_ | refine .s (.x (.s (.s .z))) ?_ | refine .s (.x (.s (.s (.s .z)))) ?_ | refine .s (.x (.s (.s (.s (.s .z))))) ?_ | refine .s (.x (.s (.s (.s (.s (.s .z)))))) ?_ | refine .s (.x (.s (.s (.s (.s (.s (.s .z))))))) ?_)) ?_
                          rintro _ _ ⟨pJ, qJ, rfl, hpJ, hqJ, rfl⟩
                          refine R_nil ?_
                          refine R_drq 9 16 (by kernel_rfl) ?_
                          refine q_pure rfl rfl (p_move rfl) ?_
                          refine q_pure rfl rfl (p_extract rfl rfl) ?_
                          refine q_pure rfl rfl (p_extract rfl rfl) ?_
                          refine q_pure rfl rfl (p_extract rfl rfl) ?_
                          refine q_pure rfl rfl (p_assign rfl) ?_
                          refine q_pure rfl rfl (p_assign rfl) ?_
                          refine q_pure rfl rfl (p_assign rfl) ?_
                          refine q_nil ?_
                          refine R_drz (by kernel_rfl) ?_
                          refine K_tn ?_
                          refine K_seq ?_
                          refine K_seq ?_
                          refine R_region ?_
                          refine r_move rfl rfl rfl ?_
                          refine r_move rfl rfl rfl ?_
                          refine s_callV cb_51 rfl rfl rfl rfl rfl (eqI _ _ _ _ _ (filterI m (isEarly (arrF n rs c g) fs hi)) _ _ _ _ _ _ rfl (by omega)) (by repeat (first | exact .z | refine .s (.h .z) ?_ | refine .s (.h (.s .z)) ?_ | refine .s (.h (.s (.s .z))) ?_ | refine .s (.h (.s (.s (.s .z)))) ?_ | refine .s (.h (.s (.s (.s (.s .z))))) ?_ | refine .s (.h (.s (.s (.s (.s (.s .z)))))) ?_ | refine .s (.h (.s (.s (.s (.s (.s (.s .z))))))) ?_ | refine .s (.h (.s (.s (.s (.s (.s (.s (.s .z)))))))) ?_ | refine .s (.h (.s (.s (.s (.s (.s (.s (.s (.s .z))))))))) ?_ | refine .s (.x .z) ?_ | refine .s (.x (.s .z)) ?_ | refine .s (.x (.s (.s .z))) ?_ | refine .s (.x (.s (.s (.s .z)))) ?_ | refine .s (.x (.s (.s (.s (.s .z))))) ?_ | refine .s (.x (.s (.s (.s (.s (.s .z)))))) ?_ | refine .s (.x (.s (.s (.s (.s (.s (.s .z))))))) ?_)) (fun h99 => ?_) (fun h99 => ?_)
                          · first
                            | (exfalso; first | omega | (simp_all; done))
                            |
                              refine r_not rfl rfl rfl ?_
                              refine r_move rfl rfl rfl ?_
                              refine r_move rfl rfl rfl ?_
                              refine r_move rfl rfl rfl ?_
                              refine s_callV cb_51 rfl rfl rfl rfl rfl (eqI _ _ _ _ _ (filterI m (isLate (arrF n rs c g) fs lo)) _ _ _ _ _ _ rfl (by omega)) (by repeat (first | exact .z | refine .s (.h .z) ?_ | refine .s (.h (.s .z)) ?_ | refine .s (.h (.s (.s .z))) ?_ | refine .s (.h (.s (.s (.s .z)))) ?_ | refine .s (.h (.s (.s (.s (.s .z))))) ?_ | refine .s (.h (.s (.s (.s (.s (.s .z)))))) ?_ | refine .s (.h (.s (.s (.s (.s (.s (.s .z))))))) ?_ | refine .s (.h (.s (.s (.s (.s (.s (.s (.s .z)))))))) ?_ | refine .s (.h (.s (.s (.s (.s (.s (.s (.s (.s .z))))))))) ?_ | refine .s (.x .z) ?_ | refine .s (.x (.s .z)) ?_ | refine .s (.x (.s (.s .z))) ?_ | refine .s (.x (.s (.s (.s .z)))) ?_ | refine .s (.x (.s (.s (.s (.s .z))))) ?_ | refine .s (.x (.s (.s (.s (.s (.s .z)))))) ?_ | refine .s (.x (.s (.s (.s (.s (.s (.s .z))))))) ?_)) (fun h104 => ?_) (fun h104 => ?_)
                              · first
                                | (exfalso; first | omega | (simp_all; done))
                                |
                                  refine r_not rfl rfl rfl ?_
                                  refine r_pick_f rfl rfl rfl rfl ?_
                                  refine r_move rfl rfl rfl ?_
                                  refine r_move rfl rfl rfl ?_
                                  refine r_move rfl rfl rfl ?_
                                  refine s_neq rfl rfl rfl rfl (fun h110 => ?_) (fun h110 => ?_)
                                  · first
                                    | (exfalso; first | omega | (simp_all; done))
                                    |
                                      refine r_pick_f rfl rfl rfl rfl ?_
                                      refine R_nil ?_
                                      refine K_tn ?_
                                      refine K_cond_t rfl ?_
                                      refine K_seq ?_
                                      refine R_region ?_
                                      refine r_assign rfl rfl rfl ?_
                                      refine R_nil ?_
                                      refine K_tn ?_
                                      refine K_ret ?_
                                      refine K_tr ?_
                                      refine K_done (H' := []) rfl rfl (.s (.tmp rfl) .z) (by repeat (first | exact .z | apply Rems.s Rem.z | apply Rems.s (Rem.s Rem.z) | apply Rems.s (Rem.s (Rem.s Rem.z)) | apply Rems.s (Rem.s (Rem.s (Rem.s Rem.z))) | apply Rems.s (Rem.s (Rem.s (Rem.s (Rem.s Rem.z)))) | apply Rems.s (Rem.s (Rem.s (Rem.s (Rem.s (Rem.s Rem.z))))) | apply Rems.s (Rem.s (Rem.s (Rem.s (Rem.s (Rem.s (Rem.s Rem.z)))))) | apply Rems.s (Rem.s (Rem.s (Rem.s (Rem.s (Rem.s (Rem.s (Rem.s Rem.z))))))) | apply Rems.s (Rem.s (Rem.s (Rem.s (Rem.s (Rem.s (Rem.s (Rem.s (Rem.s Rem.z)))))))) | apply Rems.s (Rem.s (Rem.s (Rem.s (Rem.s (Rem.s (Rem.s (Rem.s (Rem.s (Rem.s Rem.z))))))))))) ?_
                                      refine ⟨?_, rfl⟩
                                      rfl
                                  · first
                                    | (exfalso; first | omega | (simp_all; done))
                                    |
                                      refine r_pick_f rfl rfl rfl rfl ?_
                                      refine R_nil ?_
                                      refine K_tn ?_
                                      refine K_cond_f rfl ?_
                                      refine K_skip ?_
                                      refine K_tn ?_
                                      refine K_seq ?_
                                      refine R_region ?_
                                      refine r_assign rfl rfl rfl ?_
                                      refine R_nil ?_
                                      refine K_tn ?_
                                      refine K_seq ?_
                                      refine R_region ?_
                                      refine r_move rfl rfl rfl ?_
                                      refine r_move rfl rfl rfl ?_
                                      refine r_callV cb_53 rfl rfl rfl rfl rfl (heldI _ _ _ 1 _ _ _ (by omega)) (by repeat (first | exact .z | refine .s (.h .z) ?_ | refine .s (.h (.s .z)) ?_ | refine .s (.h (.s (.s .z))) ?_ | refine .s (.h (.s (.s (.s .z)))) ?_ | refine .s (.h (.s (.s (.s (.s .z))))) ?_ | refine .s (.h (.s (.s (.s (.s (.s .z)))))) ?_ | refine .s (.h (.s (.s (.s (.s (.s (.s .z))))))) ?_ | refine .s (.h (.s (.s (.s (.s (.s (.s (.s .z)))))))) ?_ | refine .s (.h (.s (.s (.s (.s (.s (.s (.s (.s .z))))))))) ?_ | refine .s (.x .z) ?_ | refine .s (.x (.s .z)) ?_ | refine .s (.x (.s (.s .z))) ?_ | refine .s (.x (.s (.s (.s .z)))) ?_ | refine .s (.x (.s (.s (.s (.s .z))))) ?_ | refine .s (.x (.s (.s (.s (.s (.s .z)))))) ?_ | refine .s (.x (.s (.s (.s (.s (.s (.s .z))))))) ?_)) ?_
                                      refine r_assign rfl rfl rfl ?_
                                      refine R_nil ?_
                                      refine K_tn ?_
                                      refine K_seq ?_
                                      refine K_seq ?_
                                      refine R_region ?_
                                      refine r_move rfl rfl rfl ?_
                                      refine s_lss rfl rfl rfl rfl (fun h116 => ?_) (fun h116 => ?_)
                                      · first
                                        | (exfalso; first | omega | (simp_all; done))
                                        |
                                          refine R_nil ?_
                                          refine K_tn ?_
                                          refine K_cond_t rfl ?_
                                          refine K_seq ?_
                                          refine R_region ?_
                                          refine r_assign rfl rfl rfl ?_
                                          refine R_nil ?_
                                          refine K_tn ?_
                                          refine K_ret ?_
                                          refine K_tr ?_
                                          refine K_done (H' := []) rfl rfl (.s (.tmp rfl) .z) (by repeat (first | exact .z | apply Rems.s Rem.z | apply Rems.s (Rem.s Rem.z) | apply Rems.s (Rem.s (Rem.s Rem.z)) | apply Rems.s (Rem.s (Rem.s (Rem.s Rem.z))) | apply Rems.s (Rem.s (Rem.s (Rem.s (Rem.s Rem.z)))) | apply Rems.s (Rem.s (Rem.s (Rem.s (Rem.s (Rem.s Rem.z))))) | apply Rems.s (Rem.s (Rem.s (Rem.s (Rem.s (Rem.s (Rem.s Rem.z)))))) | apply Rems.s (Rem.s (Rem.s (Rem.s (Rem.s (Rem.s (Rem.s (Rem.s Rem.z))))))) | apply Rems.s (Rem.s (Rem.s (Rem.s (Rem.s (Rem.s (Rem.s (Rem.s (Rem.s Rem.z)))))))) | apply Rems.s (Rem.s (Rem.s (Rem.s (Rem.s (Rem.s (Rem.s (Rem.s (Rem.s (Rem.s Rem.z))))))))))) ?_
                                          refine ⟨?_, rfl⟩
                                          rfl
                                      · first
                                        | (exfalso; first | omega | (simp_all; done))
                                        |
                                          refine R_nil ?_
                                          refine K_tn ?_
                                          refine K_cond_f rfl ?_
                                          refine K_skip ?_
                                          refine K_tn ?_
                                          refine K_seq ?_
                                          refine R_region ?_
                                          refine r_move rfl rfl rfl ?_
                                          refine r_move rfl rfl rfl ?_
                                          refine r_callV cb_53 rfl rfl rfl rfl rfl (heldI _ _ _ (1 + (filterI m (isEarly (arrF n rs c g) fs hi)).length) _ _ _ (by omega)) (by repeat (first | exact .z | refine .s (.h .z) ?_ | refine .s (.h (.s .z)) ?_ | refine .s (.h (.s (.s .z))) ?_ | refine .s (.h (.s (.s (.s .z)))) ?_ | refine .s (.h (.s (.s (.s (.s .z))))) ?_ | refine .s (.h (.s (.s (.s (.s (.s .z)))))) ?_ | refine .s (.h (.s (.s (.s (.s (.s (.s .z))))))) ?_ | refine .s (.h (.s (.s (.s (.s (.s (.s (.s .z)))))))) ?_ | refine .s (.h (.s (.s (.s (.s (.s (.s (.s (.s .z))))))))) ?_ | refine .s (.x .z) ?_ | refine .s (.x (.s .z)) ?_ | refine .s (.x (.s (.s .z))) ?_ | refine .s (.x (.s (.s (.s .z)))) ?_ | refine .s (.x (.s (.s (.s (.s .z))))) ?_ | refine .s (.x (.s (.s (.s (.s (.s .z)))))) ?_ | refine .s (.x (.s (.s (.s (.s (.s (.s .z))))))) ?_)) ?_
                                          refine r_assign rfl rfl rfl ?_
                                          refine R_nil ?_
                                          refine K_tn ?_
                                          refine K_seq ?_
                                          refine K_seq ?_
                                          refine R_region ?_
                                          refine r_move rfl rfl rfl ?_
                                          refine s_lss rfl rfl rfl rfl (fun h121 => ?_) (fun h121 => ?_)
                                          · first
                                            | (exfalso; first | omega | (simp_all; done))
                                            |
                                              refine R_nil ?_
                                              refine K_tn ?_
                                              refine K_cond_t rfl ?_
                                              refine K_seq ?_
                                              refine R_region ?_
                                              refine r_assign rfl rfl rfl ?_
                                              refine R_nil ?_
                                              refine K_tn ?_
                                              refine K_ret ?_
                                              refine K_tr ?_
                                              refine K_done (H' := []) rfl rfl (.s (.tmp rfl) .z) (by repeat (first | exact .z | apply Rems.s Rem.z | apply Rems.s (Rem.s Rem.z) | apply Rems.s (Rem.s (Rem.s Rem.z)) | apply Rems.s (Rem.s (Rem.s (Rem.s Rem.z))) | apply Rems.s (Rem.s (Rem.s (Rem.s (Rem.s Rem.z)))) | apply Rems.s (Rem.s (Rem.s (Rem.s (Rem.s (Rem.s Rem.z))))) | apply Rems.s (Rem.s (Rem.s (Rem.s (Rem.s (Rem.s (Rem.s Rem.z)))))) | apply Rems.s (Rem.s (Rem.s (Rem.s (Rem.s (Rem.s (Rem.s (Rem.s Rem.z))))))) | apply Rems.s (Rem.s (Rem.s (Rem.s (Rem.s (Rem.s (Rem.s (Rem.s (Rem.s Rem.z)))))))) | apply Rems.s (Rem.s (Rem.s (Rem.s (Rem.s (Rem.s (Rem.s (Rem.s (Rem.s (Rem.s Rem.z))))))))))) ?_
                                              refine ⟨?_, rfl⟩
                                              rfl
                                          · first
                                            | (exfalso; first | omega | (simp_all; done))
                                            |
                                              refine R_nil ?_
                                              refine K_tn ?_
                                              refine K_cond_f rfl ?_
                                              refine K_skip ?_
                                              refine K_tn ?_
                                              refine K_seq ?_
                                              refine K_seq ?_
                                              refine R_region ?_
                                              refine r_move rfl rfl rfl ?_
                                              refine r_move rfl rfl rfl ?_
                                              refine s_neq rfl rfl rfl rfl (fun h124 => ?_) (fun h124 => ?_)
                                              · first
                                                | (exfalso; first | omega | (simp_all; done))
                                                |
                                                  refine R_nil ?_
                                                  refine K_tn ?_
                                                  refine K_cond_t rfl ?_
                                                  refine K_seq ?_
                                                  refine R_region ?_
                                                  refine r_assign rfl rfl rfl ?_
                                                  refine R_nil ?_
                                                  refine K_tn ?_
                                                  refine K_ret ?_
                                                  refine K_tr ?_
                                                  refine K_done (H' := []) rfl rfl (.s (.tmp rfl) .z) (by repeat (first | exact .z | apply Rems.s Rem.z | apply Rems.s (Rem.s Rem.z) | apply Rems.s (Rem.s (Rem.s Rem.z)) | apply Rems.s (Rem.s (Rem.s (Rem.s Rem.z))) | apply Rems.s (Rem.s (Rem.s (Rem.s (Rem.s Rem.z)))) | apply Rems.s (Rem.s (Rem.s (Rem.s (Rem.s (Rem.s Rem.z))))) | apply Rems.s (Rem.s (Rem.s (Rem.s (Rem.s (Rem.s (Rem.s Rem.z)))))) | apply Rems.s (Rem.s (Rem.s (Rem.s (Rem.s (Rem.s (Rem.s (Rem.s Rem.z))))))) | apply Rems.s (Rem.s (Rem.s (Rem.s (Rem.s (Rem.s (Rem.s (Rem.s (Rem.s Rem.z)))))))) | apply Rems.s (Rem.s (Rem.s (Rem.s (Rem.s (Rem.s (Rem.s (Rem.s (Rem.s (Rem.s Rem.z))))))))))) ?_
                                                  refine ⟨?_, rfl⟩
                                                  rfl
                                              · first
                                                | (exfalso; first | omega | (simp_all; done))
                                                |
                                                  refine R_nil ?_
                                                  refine K_tn ?_
                                                  refine K_cond_f rfl ?_
                                                  refine K_skip ?_
                                                  refine K_tn ?_
                                                  refine K_seq ?_
                                                  refine R_region ?_
                                                  refine r_assign rfl rfl rfl ?_
                                                  refine R_nil ?_
                                                  refine K_tn ?_
                                                  refine K_ret ?_
                                                  refine K_done (H' := []) rfl rfl (.s (.tmp rfl) .z) (by repeat (first | exact .z | apply Rems.s Rem.z | apply Rems.s (Rem.s Rem.z) | apply Rems.s (Rem.s (Rem.s Rem.z)) | apply Rems.s (Rem.s (Rem.s (Rem.s Rem.z))) | apply Rems.s (Rem.s (Rem.s (Rem.s (Rem.s Rem.z)))) | apply Rems.s (Rem.s (Rem.s (Rem.s (Rem.s (Rem.s Rem.z))))) | apply Rems.s (Rem.s (Rem.s (Rem.s (Rem.s (Rem.s (Rem.s Rem.z)))))) | apply Rems.s (Rem.s (Rem.s (Rem.s (Rem.s (Rem.s (Rem.s (Rem.s Rem.z))))))) | apply Rems.s (Rem.s (Rem.s (Rem.s (Rem.s (Rem.s (Rem.s (Rem.s (Rem.s Rem.z)))))))) | apply Rems.s (Rem.s (Rem.s (Rem.s (Rem.s (Rem.s (Rem.s (Rem.s (Rem.s (Rem.s Rem.z))))))))))) ?_
                                                  refine ⟨?_, rfl⟩
                                                  rfl
                              · first
                                | (exfalso; first | omega | (simp_all; done))
                                |
                                  refine r_not rfl rfl rfl ?_
                                  refine r_pick_f rfl rfl rfl rfl ?_
                                  refine r_move rfl rfl rfl ?_
                                  refine r_skip rfl rfl ?_
                                  refine r_skip rfl rfl ?_
                                  refine r_skip rfl rfl ?_
                                  refine r_pick_t rfl rfl rfl rfl ?_
                                  refine R_nil ?_
                                  refine K_tn ?_
                                  refine K_cond_t rfl ?_
                                  refine K_seq ?_
                                  refine R_region ?_
                                  refine r_assign rfl rfl rfl ?_
                                  refine R_nil ?_
                                  refine K_tn ?_
                                  refine K_ret ?_
                                  refine K_tr ?_
                                  refine K_done (H' := []) rfl rfl (.s (.tmp rfl) .z) (by repeat (first | exact .z | apply Rems.s Rem.z | apply Rems.s (Rem.s Rem.z) | apply Rems.s (Rem.s (Rem.s Rem.z)) | apply Rems.s (Rem.s (Rem.s (Rem.s Rem.z))) | apply Rems.s (Rem.s (Rem.s (Rem.s (Rem.s Rem.z)))) | apply Rems.s (Rem.s (Rem.s (Rem.s (Rem.s (Rem.s Rem.z))))) | apply Rems.s (Rem.s (Rem.s (Rem.s (Rem.s (Rem.s (Rem.s Rem.z)))))) | apply Rems.s (Rem.s (Rem.s (Rem.s (Rem.s (Rem.s (Rem.s (Rem.s Rem.z))))))) | apply Rems.s (Rem.s (Rem.s (Rem.s (Rem.s (Rem.s (Rem.s (Rem.s (Rem.s Rem.z)))))))) | apply Rems.s (Rem.s (Rem.s (Rem.s (Rem.s (Rem.s (Rem.s (Rem.s (Rem.s (Rem.s Rem.z))))))))))) ?_
                                  refine ⟨?_, rfl⟩
                                  rfl
                          · first
                            | (exfalso; first | omega | (simp_all; done))
                            |
                              refine r_not rfl rfl rfl ?_
                              refine r_move rfl rfl rfl ?_
                              refine r_skip rfl rfl ?_
                              refine r_skip rfl rfl ?_
                              refine r_skip rfl rfl ?_
                              refine r_skip rfl rfl ?_
                              refine r_pick_t rfl rfl rfl rfl ?_
                              refine r_move rfl rfl rfl ?_
                              refine r_skip rfl rfl ?_
                              refine r_skip rfl rfl ?_
                              refine r_skip rfl rfl ?_
                              refine r_pick_t rfl rfl rfl rfl ?_
                              refine R_nil ?_
                              refine K_tn ?_
                              refine K_cond_t rfl ?_
                              refine K_seq ?_
                              refine R_region ?_
                              refine r_assign rfl rfl rfl ?_
                              refine R_nil ?_
                              refine K_tn ?_
                              refine K_ret ?_
                              refine K_tr ?_
                              refine K_done (H' := []) rfl rfl (.s (.tmp rfl) .z) (by repeat (first | exact .z | apply Rems.s Rem.z | apply Rems.s (Rem.s Rem.z) | apply Rems.s (Rem.s (Rem.s Rem.z)) | apply Rems.s (Rem.s (Rem.s (Rem.s Rem.z))) | apply Rems.s (Rem.s (Rem.s (Rem.s (Rem.s Rem.z)))) | apply Rems.s (Rem.s (Rem.s (Rem.s (Rem.s (Rem.s Rem.z))))) | apply Rems.s (Rem.s (Rem.s (Rem.s (Rem.s (Rem.s (Rem.s Rem.z)))))) | apply Rems.s (Rem.s (Rem.s (Rem.s (Rem.s (Rem.s (Rem.s (Rem.s Rem.z))))))) | apply Rems.s (Rem.s (Rem.s (Rem.s (Rem.s (Rem.s (Rem.s (Rem.s (Rem.s Rem.z)))))))) | apply Rems.s (Rem.s (Rem.s (Rem.s (Rem.s (Rem.s (Rem.s (Rem.s (Rem.s (Rem.s Rem.z))))))))))) ?_
                              refine ⟨?_, rfl⟩
                              rfl
      · first
        | (exfalso; first | omega | (simp_all; done))
        |
          refine r_not rfl rfl rfl ?_
          refine r_pick_f rfl rfl rfl rfl ?_
          refine r_move rfl rfl rfl ?_
          refine r_skip rfl rfl ?_
          refine r_skip rfl rfl ?_
          refine r_skip rfl rfl ?_
          refine r_pick_t rfl rfl rfl rfl ?_
          refine R_nil ?_
          refine K_tn ?_
          refine K_cond_t rfl ?_
          refine K_seq ?_
          refine R_region ?_
          refine r_assign rfl rfl rfl ?_
          refine R_nil ?_
          refine K_tn ?_
          refine K_ret ?_
          refine K_tr ?_
          refine K_done (H' := []) rfl rfl (.s (.tmp rfl) .z) (by repeat (first | exact .z | apply Rems.s Rem.z | apply Rems.s (Rem.s Rem.z) | apply Rems.s (Rem.s (Rem.s Rem.z)) | apply Rems.s (Rem.s (Rem.s (Rem.s Rem.z))) | apply Rems.s (Rem.s (Rem.s (Rem.s (Rem.s Rem.z)))) | apply Rems.s (Rem.s (Rem.s (Rem.s (Rem.s (Rem.s Rem.z))))) | apply Rems.s (Rem.s (Rem.s (Rem.s (Rem.s (Rem.s (Rem.s Rem.z)))))) | apply Rems.s (Rem.s (Rem.s (Rem.s (Rem.s (Rem.s (Rem.s (Rem.s Rem.z))))))) | apply Rems.s (Rem.s (Rem.s (Rem.s (Rem.s (Rem.s (Rem.s (Rem.s (Rem.s Rem.z)))))))) | apply Rems.s (Rem.s (Rem.s (Rem.s (Rem.s (Rem.s (Rem.s (Rem.s (Rem.s (Rem.s Rem.z))))))))))) ?_
          refine ⟨?_, rfl⟩
          rfl
  · first
    | (exfalso; first | omega | (simp_all; done))
    |
      refine r_not rfl rfl rfl ?_
      refine r_move rfl rfl rfl ?_
      refine r_skip rfl rfl ?_
      refine r_skip rfl rfl ?_
      refine r_skip rfl rfl ?_
      refine r_skip rfl rfl ?_
      refine r_pick_t rfl rfl rfl rfl ?_
      refine r_move rfl rfl rfl ?_
      refine r_skip rfl rfl ?_
      refine r_skip rfl rfl ?_
      refine r_skip rfl rfl ?_
      refine r_pick_t rfl rfl rfl rfl ?_
      refine R_nil ?_
      refine K_tn ?_
      refine K_cond_t rfl ?_
      refine K_seq ?_
      refine R_region ?_
      refine r_assign rfl rfl rfl ?_
      refine R_nil ?_
      refine K_tn ?_
      refine K_ret ?_
      refine K_tr ?_
      refine K_done (H' := []) rfl rfl (.s (.tmp rfl) .z) (by repeat (first | exact .z | apply Rems.s Rem.z | apply Rems.s (Rem.s Rem.z) | apply Rems.s (Rem.s (Rem.s Rem.z)) | apply Rems.s (Rem.s (Rem.s (Rem.s Rem.z))) | apply Rems.s (Rem.s (Rem.s (Rem.s (Rem.s Rem.z)))) | apply Rems.s (Rem.s (Rem.s (Rem.s (Rem.s (Rem.s Rem.z))))) | apply Rems.s (Rem.s (Rem.s (Rem.s (Rem.s (Rem.s (Rem.s Rem.z)))))) | apply Rems.s (Rem.s (Rem.s (Rem.s (Rem.s (Rem.s (Rem.s (Rem.s Rem.z))))))) | apply Rems.s (Rem.s (Rem.s (Rem.s (Rem.s (Rem.s (Rem.s (Rem.s (Rem.s Rem.z)))))))) | apply Rems.s (Rem.s (Rem.s (Rem.s (Rem.s (Rem.s (Rem.s (Rem.s (Rem.s (Rem.s Rem.z))))))))))) ?_
      refine ⟨?_, rfl⟩
      rfl

set_option maxRecDepth 20000 in
theorem law_EL_no (n : Int) (rs : List Nat) (hl : rs.length = 16) (hn : -128 ≤ n ∧ n ≤ 127) (m : Int) (fs : List Nat) (hf : fs.length = 16) (hm : -128 ≤ m ∧ m ≤ 127) (c g lo hi : Nat) (hno : (okC n rs m fs [c, g, lo, hi] && fle lo hi) = false) : SpecV Try.prog 15 [.agg (.int .i8 n :: fl .f32 rs).toArray, .float .f32 c, .float .f32 g, .agg (.int .i8 m :: fl .f32 fs).toArray, .float .f32 lo, .float .f32 hi] [] (.bool true) := by
  refine spec_of Try.func15 rfl Try.ntmps15 rfl (fun w0 => ?_)
  refine K_seq ?_
  refine R_region ?_
  refine r_box rfl rfl rfl rfl (fun b6 => ?_)
  refine r_box rfl rfl rfl rfl (fun b9 => ?_)
  refine r_assign rfl rfl rfl ?_
  refine R_nil ?_
  refine K_tn ?_
  refine K_seq ?_
  refine R_dr0 mixed ?_
  refine R_drq 0 8 (by kernel_rfl) ?_
  refine q_pure rfl rfl (p_loadA ag_26 sz_26 rfl (by first | exact .h .z | exact .h (.s .z) | exact .h (.s (.s .z)) | exact .h (.s (.s (.s .z))) | exact .h (.s (.s (.s (.s .z)))) | exact .h (.s (.s (.s (.s (.s .z))))) | exact .h (.s (.s (.s (.s (.s (.s .z)))))) | exact .h (.s (.s (.s (.s (.s (.s (.s .z))))))) | exact .h (.s (.s (.s (.s (.s (.s (.s (.s .z)))))))) | exact .x .z | exact .x (.s .z) | exact .x (.s (.s .z)) | exact .x (.s (.s (.s .z))) | exact .x (.s (.s (.s (.s .z)))) | exact .x (.s (.s (.s (.s (.s .z))))) | exact .x (.s (.s (.s (.s (.s (.s .z))))))) (by first | rfl | exact gC (by omega) | exact takeC (by omega) | exact takeC0 (by omega))) ?_
  refine q_callV cb_18 rfl rfl rfl rfl rfl (toVoyage _ _ (by assumption)) (by repeat (first | exact .z | refine .s (.h .z) ?_ | refine .s (.h (.s .z)) ?_ | refine .s (.h (.s (.s .z))) ?_ | refine .s (.h (.s (.s (.s .z)))) ?_ | refine .s (.h (.s (.s (.s (.s .z))))) ?_ | refine .s (.h (.s (.s (.s (.s (.s .z)))))) ?_ | refine .s (.h (.s (.s (.s (.s (.s (.s .z))))))) ?_ | refine .s (.h (.s (.s (.s (.s (.s (.s (.s .z)))))))) ?_ | refine .s (.h (.s (.s (.s (.s (.s (.s (.s (.s .z))))))))) ?_ | refine .s (.x .z) ?_ | refine .s (.x (.s .z)) ?_ | refine .s (.x (.s (.s .z))) ?_ | refine .s (.x (.s (.s (.s .z)))) ?_ | refine .s (.x (.s (.s (.s (.s .z))))) ?_ | refine .s (.x (.s (.s (.s (.s (.s .z)))))) ?_ | refine .s (.x (.s (.s (.s (.s (.s (.s .z))))))) ?_)) ?_
  refine q_pure rfl rfl (p_move rfl) ?_
  refine q_pure rfl rfl (p_move rfl) ?_
  refine q_pure rfl rfl (p_loadA ag_53 sz_53 rfl (by first | exact .h .z | exact .h (.s .z) | exact .h (.s (.s .z)) | exact .h (.s (.s (.s .z))) | exact .h (.s (.s (.s (.s .z)))) | exact .h (.s (.s (.s (.s (.s .z))))) | exact .h (.s (.s (.s (.s (.s (.s .z)))))) | exact .h (.s (.s (.s (.s (.s (.s (.s .z))))))) | exact .h (.s (.s (.s (.s (.s (.s (.s (.s .z)))))))) | exact .x .z | exact .x (.s .z) | exact .x (.s (.s .z)) | exact .x (.s (.s (.s .z))) | exact .x (.s (.s (.s (.s .z)))) | exact .x (.s (.s (.s (.s (.s .z))))) | exact .x (.s (.s (.s (.s (.s (.s .z))))))) (by first | rfl | exact gC (by omega) | exact takeC (by omega) | exact takeC0 (by omega))) ?_
  refine q_callV cb_46 rfl rfl rfl rfl rfl (toCrate _ _ (by assumption)) (by repeat (first | exact .z | refine .s (.h .z) ?_ | refine .s (.h (.s .z)) ?_ | refine .s (.h (.s (.s .z))) ?_ | refine .s (.h (.s (.s (.s .z)))) ?_ | refine .s (.h (.s (.s (.s (.s .z))))) ?_ | refine .s (.h (.s (.s (.s (.s (.s .z)))))) ?_ | refine .s (.h (.s (.s (.s (.s (.s (.s .z))))))) ?_ | refine .s (.h (.s (.s (.s (.s (.s (.s (.s .z)))))))) ?_ | refine .s (.h (.s (.s (.s (.s (.s (.s (.s (.s .z))))))))) ?_ | refine .s (.x .z) ?_ | refine .s (.x (.s .z)) ?_ | refine .s (.x (.s (.s .z))) ?_ | refine .s (.x (.s (.s (.s .z)))) ?_ | refine .s (.x (.s (.s (.s (.s .z))))) ?_ | refine .s (.x (.s (.s (.s (.s (.s .z)))))) ?_ | refine .s (.x (.s (.s (.s (.s (.s (.s .z))))))) ?_)) ?_
  refine q_pure rfl rfl (p_move rfl) ?_
  refine q_pure rfl rfl (p_move rfl) ?_
  refine q_nil ?_
  refine R_drs (by kernel_rfl) rfl ?_
  refine r_callR cb_49 rfl rfl rfl rfl rfl (spec_EL_no n rs hl hn m fs hf hm c g lo hi hno) (by repeat (first | exact .z | refine .s (.h .z) ?_ | refine .s (.h (.s .z)) ?_ | refine .s (.h (.s (.s .z))) ?_ | refine .s (.h (.s (.s (.s .z)))) ?_ | refine .s (.h (.s (.s (.s (.s .z))))) ?_ | refine .s (.h (.s (.s (.s (.s (.s .z)))))) ?_ | refine .s (.h (.s (.s (.s (.s (.s (.s .z))))))) ?_ | refine .s (.h (.s (.s (.s (.s (.s (.s (.s .z)))))))) ?_ | refine .s (.h (.s (.s (.s (.s (.s (.s (.s (.s .z))))))))) ?_ | refine .s (.x .z) ?_ | refine .s (.x (.s .z)) ?_ | refine .s (.x (.s (.s .z))) ?_ | refine .s (.x (.s (.s (.s .z)))) ?_ | refine .s (.x (.s (.s (.s (.s .z))))) ?_ | refine .s (.x (.s (.s (.s (.s (.s .z)))))) ?_ | refine .s (.x (.s (.s (.s (.s (.s (.s .z))))))) ?_)) ?_
  rintro _ _ ⟨pS, qS, rfl, hpS, hqS, rfl⟩
  refine R_nil ?_
  refine R_drq 9 16 (by kernel_rfl) ?_
  refine q_pure rfl rfl (p_move rfl) ?_
  refine q_pure rfl rfl (p_extract rfl rfl) ?_
  refine q_pure rfl rfl (p_extract rfl rfl) ?_
  refine q_pure rfl rfl (p_extract rfl rfl) ?_
  refine q_pure rfl rfl (p_assign rfl) ?_
  refine q_pure rfl rfl (p_assign rfl) ?_
  refine q_pure rfl rfl (p_assign rfl) ?_
  refine q_nil ?_
  refine R_drz (by kernel_rfl) ?_
  refine K_tn ?_
  refine K_seq ?_
  refine R_drawAll mixed (by kernel_rfl) ?_
  refine q_pure rfl rfl (p_loadA ag_26 sz_26 rfl (by first | exact .h .z | exact .h (.s .z) | exact .h (.s (.s .z)) | exact .h (.s (.s (.s .z))) | exact .h (.s (.s (.s (.s .z)))) | exact .h (.s (.s (.s (.s (.s .z))))) | exact .h (.s (.s (.s (.s (.s (.s .z)))))) | exact .h (.s (.s (.s (.s (.s (.s (.s .z))))))) | exact .h (.s (.s (.s (.s (.s (.s (.s (.s .z)))))))) | exact .x .z | exact .x (.s .z) | exact .x (.s (.s .z)) | exact .x (.s (.s (.s .z))) | exact .x (.s (.s (.s (.s .z)))) | exact .x (.s (.s (.s (.s (.s .z))))) | exact .x (.s (.s (.s (.s (.s (.s .z))))))) (by first | rfl | exact gC (by omega) | exact takeC (by omega) | exact takeC0 (by omega))) ?_
  refine q_callV cb_18 rfl rfl rfl rfl rfl (toVoyage _ _ (by assumption)) (by repeat (first | exact .z | refine .s (.h .z) ?_ | refine .s (.h (.s .z)) ?_ | refine .s (.h (.s (.s .z))) ?_ | refine .s (.h (.s (.s (.s .z)))) ?_ | refine .s (.h (.s (.s (.s (.s .z))))) ?_ | refine .s (.h (.s (.s (.s (.s (.s .z)))))) ?_ | refine .s (.h (.s (.s (.s (.s (.s (.s .z))))))) ?_ | refine .s (.h (.s (.s (.s (.s (.s (.s (.s .z)))))))) ?_ | refine .s (.h (.s (.s (.s (.s (.s (.s (.s (.s .z))))))))) ?_ | refine .s (.x .z) ?_ | refine .s (.x (.s .z)) ?_ | refine .s (.x (.s (.s .z))) ?_ | refine .s (.x (.s (.s (.s .z)))) ?_ | refine .s (.x (.s (.s (.s (.s .z))))) ?_ | refine .s (.x (.s (.s (.s (.s (.s .z)))))) ?_ | refine .s (.x (.s (.s (.s (.s (.s (.s .z))))))) ?_)) ?_
  refine q_pure rfl rfl (p_move rfl) ?_
  refine q_pure rfl rfl (p_move rfl) ?_
  refine q_pure rfl rfl (p_loadA ag_53 sz_53 rfl (by first | exact .h .z | exact .h (.s .z) | exact .h (.s (.s .z)) | exact .h (.s (.s (.s .z))) | exact .h (.s (.s (.s (.s .z)))) | exact .h (.s (.s (.s (.s (.s .z))))) | exact .h (.s (.s (.s (.s (.s (.s .z)))))) | exact .h (.s (.s (.s (.s (.s (.s (.s .z))))))) | exact .h (.s (.s (.s (.s (.s (.s (.s (.s .z)))))))) | exact .x .z | exact .x (.s .z) | exact .x (.s (.s .z)) | exact .x (.s (.s (.s .z))) | exact .x (.s (.s (.s (.s .z)))) | exact .x (.s (.s (.s (.s (.s .z))))) | exact .x (.s (.s (.s (.s (.s (.s .z))))))) (by first | rfl | exact gC (by omega) | exact takeC (by omega) | exact takeC0 (by omega))) ?_
  refine q_callV cb_46 rfl rfl rfl rfl rfl (toCrate _ _ (by assumption)) (by repeat (first | exact .z | refine .s (.h .z) ?_ | refine .s (.h (.s .z)) ?_ | refine .s (.h (.s (.s .z))) ?_ | refine .s (.h (.s (.s (.s .z)))) ?_ | refine .s (.h (.s (.s (.s (.s .z))))) ?_ | refine .s (.h (.s (.s (.s (.s (.s .z)))))) ?_ | refine .s (.h (.s (.s (.s (.s (.s (.s .z))))))) ?_ | refine .s (.h (.s (.s (.s (.s (.s (.s (.s .z)))))))) ?_ | refine .s (.h (.s (.s (.s (.s (.s (.s (.s (.s .z))))))))) ?_ | refine .s (.x .z) ?_ | refine .s (.x (.s .z)) ?_ | refine .s (.x (.s (.s .z))) ?_ | refine .s (.x (.s (.s (.s .z)))) ?_ | refine .s (.x (.s (.s (.s (.s .z))))) ?_ | refine .s (.x (.s (.s (.s (.s (.s .z)))))) ?_ | refine .s (.x (.s (.s (.s (.s (.s (.s .z))))))) ?_)) ?_
  refine q_pure rfl rfl (p_move rfl) ?_
  refine q_pure rfl rfl (p_move rfl) ?_
  refine q_callV cb_50 rfl rfl rfl rfl rfl (impl_EL_no n rs hl hn m fs hf hm c g lo hi hno) (by repeat (first | exact .z | refine .s (.h .z) ?_ | refine .s (.h (.s .z)) ?_ | refine .s (.h (.s (.s .z))) ?_ | refine .s (.h (.s (.s (.s .z)))) ?_ | refine .s (.h (.s (.s (.s (.s .z))))) ?_ | refine .s (.h (.s (.s (.s (.s (.s .z)))))) ?_ | refine .s (.h (.s (.s (.s (.s (.s (.s .z))))))) ?_ | refine .s (.h (.s (.s (.s (.s (.s (.s (.s .z)))))))) ?_ | refine .s (.h (.s (.s (.s (.s (.s (.s (.s (.s .z))))))))) ?_ | refine .s (.x .z) ?_ | refine .s (.x (.s .z)) ?_ | refine .s (.x (.s (.s .z))) ?_ | refine .s (.x (.s (.s (.s .z)))) ?_ | refine .s (.x (.s (.s (.s (.s .z))))) ?_ | refine .s (.x (.s (.s (.s (.s (.s .z)))))) ?_ | refine .s (.x (.s (.s (.s (.s (.s (.s .z))))))) ?_)) ?_
  refine q_pure rfl rfl (p_move rfl) ?_
  refine q_pure rfl rfl (p_extract rfl rfl) ?_
  refine q_pure rfl rfl (p_extract rfl rfl) ?_
  refine q_pure rfl rfl (p_extract rfl rfl) ?_
  refine q_pure rfl rfl (p_assign rfl) ?_
  refine q_pure rfl rfl (p_assign rfl) ?_
  refine q_pure rfl rfl (p_assign rfl) ?_
  refine q_nil ?_
  refine K_tn ?_
  refine K_seq ?_
  refine K_seq ?_
  refine R_region ?_
  refine r_move rfl rfl rfl ?_
  refine r_move rfl rfl rfl ?_
  refine s_callV cb_51 rfl rfl rfl rfl rfl (eqI_nil _ _ _ _) (by repeat (first | exact .z | refine .s (.h .z) ?_ | refine .s (.h (.s .z)) ?_ | refine .s (.h (.s (.s .z))) ?_ | refine .s (.h (.s (.s (.s .z)))) ?_ | refine .s (.h (.s (.s (.s (.s .z))))) ?_ | refine .s (.h (.s (.s (.s (.s (.s .z)))))) ?_ | refine .s (.h (.s (.s (.s (.s (.s (.s .z))))))) ?_ | refine .s (.h (.s (.s (.s (.s (.s (.s (.s .z)))))))) ?_ | refine .s (.h (.s (.s (.s (.s (.s (.s (.s (.s .z))))))))) ?_ | refine .s (.x .z) ?_ | refine .s (.x (.s .z)) ?_ | refine .s (.x (.s (.s .z))) ?_ | refine .s (.x (.s (.s (.s .z)))) ?_ | refine .s (.x (.s (.s (.s (.s .z))))) ?_ | refine .s (.x (.s (.s (.s (.s (.s .z)))))) ?_ | refine .s (.x (.s (.s (.s (.s (.s (.s .z))))))) ?_)) (fun h52 => ?_) (fun h52 => ?_)
  · first
    | (exfalso; first | omega | (simp_all; done))
    |
      refine r_not rfl rfl rfl ?_
      refine r_move rfl rfl rfl ?_
      refine r_move rfl rfl rfl ?_
      refine r_move rfl rfl rfl ?_
      refine s_callV cb_51 rfl rfl rfl rfl rfl (eqI_nil _ _ _ _) (by repeat (first | exact .z | refine .s (.h .z) ?_ | refine .s (.h (.s .z)) ?_ | refine .s (.h (.s (.s .z))) ?_ | refine .s (.h (.s (.s (.s .z)))) ?_ | refine .s (.h (.s (.s (.s (.s .z))))) ?_ | refine .s (.h (.s (.s (.s (.s (.s .z)))))) ?_ | refine .s (.h (.s (.s (.s (.s (.s (.s .z))))))) ?_ | refine .s (.h (.s (.s (.s (.s (.s (.s (.s .z)))))))) ?_ | refine .s (.h (.s (.s (.s (.s (.s (.s (.s (.s .z))))))))) ?_ | refine .s (.x .z) ?_ | refine .s (.x (.s .z)) ?_ | refine .s (.x (.s (.s .z))) ?_ | refine .s (.x (.s (.s (.s .z)))) ?_ | refine .s (.x (.s (.s (.s (.s .z))))) ?_ | refine .s (.x (.s (.s (.s (.s (.s .z)))))) ?_ | refine .s (.x (.s (.s (.s (.s (.s (.s .z))))))) ?_)) (fun h57 => ?_) (fun h57 => ?_)
      · first
        | (exfalso; first | omega | (simp_all; done))
        |
          refine r_not rfl rfl rfl ?_
          refine r_pick_f rfl rfl rfl rfl ?_
          refine r_move rfl rfl rfl ?_
          refine r_move rfl rfl rfl ?_
          refine r_move rfl rfl rfl ?_
          refine s_neq rfl rfl rfl rfl (fun h63 => ?_) (fun h63 => ?_)
          · first
            | (exfalso; first | omega | (simp_all; done))
            |
              refine r_pick_f rfl rfl rfl rfl ?_
              refine R_nil ?_
              refine K_tn ?_
              refine K_cond_t rfl ?_
              refine K_seq ?_
              refine R_region ?_
              refine r_assign rfl rfl rfl ?_
              refine R_nil ?_
              refine K_tn ?_
              refine K_ret ?_
              refine K_tr ?_
              refine K_done (H' := []) rfl rfl (.s (.tmp rfl) .z) (by repeat (first | exact .z | apply Rems.s Rem.z | apply Rems.s (Rem.s Rem.z) | apply Rems.s (Rem.s (Rem.s Rem.z)) | apply Rems.s (Rem.s (Rem.s (Rem.s Rem.z))) | apply Rems.s (Rem.s (Rem.s (Rem.s (Rem.s Rem.z)))) | apply Rems.s (Rem.s (Rem.s (Rem.s (Rem.s (Rem.s Rem.z))))) | apply Rems.s (Rem.s (Rem.s (Rem.s (Rem.s (Rem.s (Rem.s Rem.z)))))) | apply Rems.s (Rem.s (Rem.s (Rem.s (Rem.s (Rem.s (Rem.s (Rem.s Rem.z))))))) | apply Rems.s (Rem.s (Rem.s (Rem.s (Rem.s (Rem.s (Rem.s (Rem.s (Rem.s Rem.z)))))))) | apply Rems.s (Rem.s (Rem.s (Rem.s (Rem.s (Rem.s (Rem.s (Rem.s (Rem.s (Rem.s Rem.z))))))))))) ?_
              refine ⟨?_, rfl⟩
              rfl
          · first
            | (exfalso; first | omega | (simp_all; done))
            |
              refine r_pick_f rfl rfl rfl rfl ?_
              refine R_nil ?_
              refine K_tn ?_
              refine K_cond_f rfl ?_
              refine K_skip ?_
              refine K_tn ?_
              refine K_seq ?_
              refine R_region ?_
              refine r_assign rfl rfl rfl ?_
              refine R_nil ?_
              refine K_tn ?_
              refine K_seq ?_
              refine R_region ?_
              refine r_move rfl rfl rfl ?_
              refine r_move rfl rfl rfl ?_
              refine r_callV cb_52 rfl rfl rfl rfl rfl (markI_nil 1 _ _) (by repeat (first | exact .z | refine .s (.h .z) ?_ | refine .s (.h (.s .z)) ?_ | refine .s (.h (.s (.s .z))) ?_ | refine .s (.h (.s (.s (.s .z)))) ?_ | refine .s (.h (.s (.s (.s (.s .z))))) ?_ | refine .s (.h (.s (.s (.s (.s (.s .z)))))) ?_ | refine .s (.h (.s (.s (.s (.s (.s (.s .z))))))) ?_ | refine .s (.h (.s (.s (.s (.s (.s (.s (.s .z)))))))) ?_ | refine .s (.h (.s (.s (.s (.s (.s (.s (.s (.s .z))))))))) ?_ | refine .s (.x .z) ?_ | refine .s (.x (.s .z)) ?_ | refine .s (.x (.s (.s .z))) ?_ | refine .s (.x (.s (.s (.s .z)))) ?_ | refine .s (.x (.s (.s (.s (.s .z))))) ?_ | refine .s (.x (.s (.s (.s (.s (.s .z)))))) ?_ | refine .s (.x (.s (.s (.s (.s (.s (.s .z))))))) ?_)) ?_
              refine r_assign rfl rfl rfl ?_
              refine R_nil ?_
              refine K_tn ?_
              refine K_seq ?_
              refine R_region ?_
              refine r_move rfl rfl rfl ?_
              refine r_move rfl rfl rfl ?_
              refine r_callV cb_52 rfl rfl rfl rfl rfl (markI_nil 1 _ _) (by repeat (first | exact .z | refine .s (.h .z) ?_ | refine .s (.h (.s .z)) ?_ | refine .s (.h (.s (.s .z))) ?_ | refine .s (.h (.s (.s (.s .z)))) ?_ | refine .s (.h (.s (.s (.s (.s .z))))) ?_ | refine .s (.h (.s (.s (.s (.s (.s .z)))))) ?_ | refine .s (.h (.s (.s (.s (.s (.s (.s .z))))))) ?_ | refine .s (.h (.s (.s (.s (.s (.s (.s (.s .z)))))))) ?_ | refine .s (.h (.s (.s (.s (.s (.s (.s (.s (.s .z))))))))) ?_ | refine .s (.x .z) ?_ | refine .s (.x (.s .z)) ?_ | refine .s (.x (.s (.s .z))) ?_ | refine .s (.x (.s (.s (.s .z)))) ?_ | refine .s (.x (.s (.s (.s (.s .z))))) ?_ | refine .s (.x (.s (.s (.s (.s (.s .z)))))) ?_ | refine .s (.x (.s (.s (.s (.s (.s (.s .z))))))) ?_)) ?_
              refine r_assign rfl rfl rfl ?_
              refine R_nil ?_
              refine K_tn ?_
              refine K_seq ?_
              refine R_region ?_
              refine r_assign rfl rfl rfl ?_
              refine R_nil ?_
              refine K_tn ?_
              refine K_seq ?_
              refine R_region ?_
              refine r_move rfl rfl rfl ?_
              refine r_move rfl rfl rfl ?_
              refine r_callV cb_53 rfl rfl rfl rfl rfl (heldI_nil 1 _ _) (by repeat (first | exact .z | refine .s (.h .z) ?_ | refine .s (.h (.s .z)) ?_ | refine .s (.h (.s (.s .z))) ?_ | refine .s (.h (.s (.s (.s .z)))) ?_ | refine .s (.h (.s (.s (.s (.s .z))))) ?_ | refine .s (.h (.s (.s (.s (.s (.s .z)))))) ?_ | refine .s (.h (.s (.s (.s (.s (.s (.s .z))))))) ?_ | refine .s (.h (.s (.s (.s (.s (.s (.s (.s .z)))))))) ?_ | refine .s (.h (.s (.s (.s (.s (.s (.s (.s (.s .z))))))))) ?_ | refine .s (.x .z) ?_ | refine .s (.x (.s .z)) ?_ | refine .s (.x (.s (.s .z))) ?_ | refine .s (.x (.s (.s (.s .z)))) ?_ | refine .s (.x (.s (.s (.s (.s .z))))) ?_ | refine .s (.x (.s (.s (.s (.s (.s .z)))))) ?_ | refine .s (.x (.s (.s (.s (.s (.s (.s .z))))))) ?_)) ?_
              refine r_assign rfl rfl rfl ?_
              refine R_nil ?_
              refine K_tn ?_
              refine K_seq ?_
              refine K_seq ?_
              refine R_region ?_
              refine r_move rfl rfl rfl ?_
              refine s_lss rfl rfl rfl rfl (fun h75 => ?_) (fun h75 => ?_)
              · first
                | (exfalso; first | omega | (simp_all; done))
                |
                  refine R_nil ?_
                  refine K_tn ?_
                  refine K_cond_t rfl ?_
                  refine K_seq ?_
                  refine R_region ?_
                  refine r_assign rfl rfl rfl ?_
                  refine R_nil ?_
                  refine K_tn ?_
                  refine K_ret ?_
                  refine K_tr ?_
                  refine K_done (H' := []) rfl rfl (.s (.tmp rfl) .z) (by repeat (first | exact .z | apply Rems.s Rem.z | apply Rems.s (Rem.s Rem.z) | apply Rems.s (Rem.s (Rem.s Rem.z)) | apply Rems.s (Rem.s (Rem.s (Rem.s Rem.z))) | apply Rems.s (Rem.s (Rem.s (Rem.s (Rem.s Rem.z)))) | apply Rems.s (Rem.s (Rem.s (Rem.s (Rem.s (Rem.s Rem.z))))) | apply Rems.s (Rem.s (Rem.s (Rem.s (Rem.s (Rem.s (Rem.s Rem.z)))))) | apply Rems.s (Rem.s (Rem.s (Rem.s (Rem.s (Rem.s (Rem.s (Rem.s Rem.z))))))) | apply Rems.s (Rem.s (Rem.s (Rem.s (Rem.s (Rem.s (Rem.s (Rem.s (Rem.s Rem.z)))))))) | apply Rems.s (Rem.s (Rem.s (Rem.s (Rem.s (Rem.s (Rem.s (Rem.s (Rem.s (Rem.s Rem.z))))))))))) ?_
                  refine ⟨?_, rfl⟩
                  rfl
              · first
                | (exfalso; first | omega | (simp_all; done))
                |
                  refine R_nil ?_
                  refine K_tn ?_
                  refine K_cond_f rfl ?_
                  refine K_skip ?_
                  refine K_tn ?_
                  refine K_seq ?_
                  refine R_region ?_
                  refine r_move rfl rfl rfl ?_
                  refine r_move rfl rfl rfl ?_
                  refine r_callV cb_53 rfl rfl rfl rfl rfl (heldI_nil 1 _ _) (by repeat (first | exact .z | refine .s (.h .z) ?_ | refine .s (.h (.s .z)) ?_ | refine .s (.h (.s (.s .z))) ?_ | refine .s (.h (.s (.s (.s .z)))) ?_ | refine .s (.h (.s (.s (.s (.s .z))))) ?_ | refine .s (.h (.s (.s (.s (.s (.s .z)))))) ?_ | refine .s (.h (.s (.s (.s (.s (.s (.s .z))))))) ?_ | refine .s (.h (.s (.s (.s (.s (.s (.s (.s .z)))))))) ?_ | refine .s (.h (.s (.s (.s (.s (.s (.s (.s (.s .z))))))))) ?_ | refine .s (.x .z) ?_ | refine .s (.x (.s .z)) ?_ | refine .s (.x (.s (.s .z))) ?_ | refine .s (.x (.s (.s (.s .z)))) ?_ | refine .s (.x (.s (.s (.s (.s .z))))) ?_ | refine .s (.x (.s (.s (.s (.s (.s .z)))))) ?_ | refine .s (.x (.s (.s (.s (.s (.s (.s .z))))))) ?_)) ?_
                  refine r_assign rfl rfl rfl ?_
                  refine R_nil ?_
                  refine K_tn ?_
                  refine K_seq ?_
                  refine K_seq ?_
                  refine R_region ?_
                  refine r_move rfl rfl rfl ?_
                  refine s_lss rfl rfl rfl rfl (fun h80 => ?_) (fun h80 => ?_)
                  · first
                    | (exfalso; first | omega | (simp_all; done))
                    |
                      refine R_nil ?_
                      refine K_tn ?_
                      refine K_cond_t rfl ?_
                      refine K_seq ?_
                      refine R_region ?_
                      refine r_assign rfl rfl rfl ?_
                      refine R_nil ?_
                      refine K_tn ?_
                      refine K_ret ?_
                      refine K_tr ?_
                      refine K_done (H' := []) rfl rfl (.s (.tmp rfl) .z) (by repeat (first | exact .z | apply Rems.s Rem.z | apply Rems.s (Rem.s Rem.z) | apply Rems.s (Rem.s (Rem.s Rem.z)) | apply Rems.s (Rem.s (Rem.s (Rem.s Rem.z))) | apply Rems.s (Rem.s (Rem.s (Rem.s (Rem.s Rem.z)))) | apply Rems.s (Rem.s (Rem.s (Rem.s (Rem.s (Rem.s Rem.z))))) | apply Rems.s (Rem.s (Rem.s (Rem.s (Rem.s (Rem.s (Rem.s Rem.z)))))) | apply Rems.s (Rem.s (Rem.s (Rem.s (Rem.s (Rem.s (Rem.s (Rem.s Rem.z))))))) | apply Rems.s (Rem.s (Rem.s (Rem.s (Rem.s (Rem.s (Rem.s (Rem.s (Rem.s Rem.z)))))))) | apply Rems.s (Rem.s (Rem.s (Rem.s (Rem.s (Rem.s (Rem.s (Rem.s (Rem.s (Rem.s Rem.z))))))))))) ?_
                      refine ⟨?_, rfl⟩
                      rfl
                  · first
                    | (exfalso; first | omega | (simp_all; done))
                    |
                      refine R_nil ?_
                      refine K_tn ?_
                      refine K_cond_f rfl ?_
                      refine K_skip ?_
                      refine K_tn ?_
                      refine K_seq ?_
                      refine K_seq ?_
                      refine R_region ?_
                      refine r_move rfl rfl rfl ?_
                      refine r_move rfl rfl rfl ?_
                      refine s_neq rfl rfl rfl rfl (fun h83 => ?_) (fun h83 => ?_)
                      · first
                        | (exfalso; first | omega | (simp_all; done))
                        |
                          refine R_nil ?_
                          refine K_tn ?_
                          refine K_cond_t rfl ?_
                          refine K_seq ?_
                          refine R_region ?_
                          refine r_assign rfl rfl rfl ?_
                          refine R_nil ?_
                          refine K_tn ?_
                          refine K_ret ?_
                          refine K_tr ?_
                          refine K_done (H' := []) rfl rfl (.s (.tmp rfl) .z) (by repeat (first | exact .z | apply Rems.s Rem.z | apply Rems.s (Rem.s Rem.z) | apply Rems.s (Rem.s (Rem.s Rem.z)) | apply Rems.s (Rem.s (Rem.s (Rem.s Rem.z))) | apply Rems.s (Rem.s (Rem.s (Rem.s (Rem.s Rem.z)))) | apply Rems.s (Rem.s (Rem.s (Rem.s (Rem.s (Rem.s Rem.z))))) | apply Rems.s (Rem.s (Rem.s (Rem.s (Rem.s (Rem.s (Rem.s Rem.z)))))) | apply Rems.s (Rem.s (Rem.s (Rem.s (Rem.s (Rem.s (Rem.s (Rem.s Rem.z))))))) | apply Rems.s (Rem.s (Rem.s (Rem.s (Rem.s (Rem.s (Rem.s (Rem.s (Rem.s Rem.z)))))))) | apply Rems.s (Rem.s (Rem.s (Rem.s (Rem.s (Rem.s (Rem.s (Rem.s (Rem.s (Rem.s Rem.z))))))))))) ?_
                          refine ⟨?_, rfl⟩
                          rfl
                      · first
                        | (exfalso; first | omega | (simp_all; done))
                        |
                          refine R_nil ?_
                          refine K_tn ?_
                          refine K_cond_f rfl ?_
                          refine K_skip ?_
                          refine K_tn ?_
                          refine K_seq ?_
                          refine R_drawAll mixed (by kernel_rfl) ?_
                          refine q_pure rfl rfl (p_loadA ag_26 sz_26 rfl (by first | exact .h .z | exact .h (.s .z) | exact .h (.s (.s .z)) | exact .h (.s (.s (.s .z))) | exact .h (.s (.s (.s (.s .z)))) | exact .h (.s (.s (.s (.s (.s .z))))) | exact .h (.s (.s (.s (.s (.s (.s .z)))))) | exact .h (.s (.s (.s (.s (.s (.s (.s .z))))))) | exact .h (.s (.s (.s (.s (.s (.s (.s (.s .z)))))))) | exact .x .z | exact .x (.s .z) | exact .x (.s (.s .z)) | exact .x (.s (.s (.s .z))) | exact .x (.s (.s (.s (.s .z)))) | exact .x (.s (.s (.s (.s (.s .z))))) | exact .x (.s (.s (.s (.s (.s (.s .z))))))) (by first | rfl | exact gC (by omega) | exact takeC (by omega) | exact takeC0 (by omega))) ?_
                          refine q_callV cb_18 rfl rfl rfl rfl rfl (toVoyage _ _ (by assumption)) (by repeat (first | exact .z | refine .s (.h .z) ?_ | refine .s (.h (.s .z)) ?_ | refine .s (.h (.s (.s .z))) ?_ | refine .s (.h (.s (.s (.s .z)))) ?_ | refine .s (.h (.s (.s (.s (.s .z))))) ?_ | refine .s (.h (.s (.s (.s (.s (.s .z)))))) ?_ | refine .s (.h (.s (.s (.s (.s (.s (.s .z))))))) ?_ | refine .s (.h (.s (.s (.s (.s (.s (.s (.s .z)))))))) ?_ | refine .s (.h (.s (.s (.s (.s (.s (.s (.s (.s .z))))))))) ?_ | refine .s (.x .z) ?_ | refine .s (.x (.s .z)) ?_ | refine .s (.x (.s (.s .z))) ?_ | refine .s (.x (.s (.s (.s .z)))) ?_ | refine .s (.x (.s (.s (.s (.s .z))))) ?_ | refine .s (.x (.s (.s (.s (.s (.s .z)))))) ?_ | refine .s (.x (.s (.s (.s (.s (.s (.s .z))))))) ?_)) ?_
                          refine q_pure rfl rfl (p_move rfl) ?_
                          refine q_pure rfl rfl (p_move rfl) ?_
                          refine q_pure rfl rfl (p_loadA ag_53 sz_53 rfl (by first | exact .h .z | exact .h (.s .z) | exact .h (.s (.s .z)) | exact .h (.s (.s (.s .z))) | exact .h (.s (.s (.s (.s .z)))) | exact .h (.s (.s (.s (.s (.s .z))))) | exact .h (.s (.s (.s (.s (.s (.s .z)))))) | exact .h (.s (.s (.s (.s (.s (.s (.s .z))))))) | exact .h (.s (.s (.s (.s (.s (.s (.s (.s .z)))))))) | exact .x .z | exact .x (.s .z) | exact .x (.s (.s .z)) | exact .x (.s (.s (.s .z))) | exact .x (.s (.s (.s (.s .z)))) | exact .x (.s (.s (.s (.s (.s .z))))) | exact .x (.s (.s (.s (.s (.s (.s .z))))))) (by first | rfl | exact gC (by omega) | exact takeC (by omega) | exact takeC0 (by omega))) ?_
                          refine q_callV cb_46 rfl rfl rfl rfl rfl (toCrate _ _ (by assumption)) (by repeat (first | exact .z | refine .s (.h .z) ?_ | refine .s (.h (.s .z)) ?_ | refine .s (.h (.s (.s .z))) ?_ | refine .s (.h (.s (.s (.s .z)))) ?_ | refine .s (.h (.s (.s (.s (.s .z))))) ?_ | refine .s (.h (.s (.s (.s (.s (.s .z)))))) ?_ | refine .s (.h (.s (.s (.s (.s (.s (.s .z))))))) ?_ | refine .s (.h (.s (.s (.s (.s (.s (.s (.s .z)))))))) ?_ | refine .s (.h (.s (.s (.s (.s (.s (.s (.s (.s .z))))))))) ?_ | refine .s (.x .z) ?_ | refine .s (.x (.s .z)) ?_ | refine .s (.x (.s (.s .z))) ?_ | refine .s (.x (.s (.s (.s .z)))) ?_ | refine .s (.x (.s (.s (.s (.s .z))))) ?_ | refine .s (.x (.s (.s (.s (.s (.s .z)))))) ?_ | refine .s (.x (.s (.s (.s (.s (.s (.s .z))))))) ?_)) ?_
                          refine q_pure rfl rfl (p_move rfl) ?_
                          refine q_pure rfl rfl (p_move rfl) ?_
                          refine q_callV cb_50 rfl rfl rfl rfl rfl (impl_EL_no n rs hl hn m fs hf hm c g lo hi hno) (by repeat (first | exact .z | refine .s (.h .z) ?_ | refine .s (.h (.s .z)) ?_ | refine .s (.h (.s (.s .z))) ?_ | refine .s (.h (.s (.s (.s .z)))) ?_ | refine .s (.h (.s (.s (.s (.s .z))))) ?_ | refine .s (.h (.s (.s (.s (.s (.s .z)))))) ?_ | refine .s (.h (.s (.s (.s (.s (.s (.s .z))))))) ?_ | refine .s (.h (.s (.s (.s (.s (.s (.s (.s .z)))))))) ?_ | refine .s (.h (.s (.s (.s (.s (.s (.s (.s (.s .z))))))))) ?_ | refine .s (.x .z) ?_ | refine .s (.x (.s .z)) ?_ | refine .s (.x (.s (.s .z))) ?_ | refine .s (.x (.s (.s (.s .z)))) ?_ | refine .s (.x (.s (.s (.s (.s .z))))) ?_ | refine .s (.x (.s (.s (.s (.s (.s .z)))))) ?_ | refine .s (.x (.s (.s (.s (.s (.s (.s .z))))))) ?_)) ?_
                          refine q_pure rfl rfl (p_move rfl) ?_
                          refine q_pure rfl rfl (p_extract rfl rfl) ?_
                          refine q_pure rfl rfl (p_extract rfl rfl) ?_
                          refine q_pure rfl rfl (p_extract rfl rfl) ?_
                          refine q_pure rfl rfl (p_assign rfl) ?_
                          refine q_pure rfl rfl (p_assign rfl) ?_
                          refine q_pure rfl rfl (p_assign rfl) ?_
                          refine q_nil ?_
                          refine K_tn ?_
                          refine K_seq ?_
                          refine K_seq ?_
                          refine R_region ?_
                          refine r_move rfl rfl rfl ?_
                          refine r_move rfl rfl rfl ?_
                          refine s_callV cb_51 rfl rfl rfl rfl rfl (eqI_nil _ _ _ _) (by repeat (first | exact .z | refine .s (.h .z) ?_ | refine .s (.h (.s .z)) ?_ | refine .s (.h (.s (.s .z))) ?_ | refine .s (.h (.s (.s (.s .z)))) ?_ | refine .s (.h (.s (.s (.s (.s .z))))) ?_ | refine .s (.h (.s (.s (.s (.s (.s .z)))))) ?_ | refine .s (.h (.s (.s (.s (.s (.s (.s .z))))))) ?_ | refine .s (.h (.s (.s (.s (.s (.s (.s (.s .z)))))))) ?_ | refine .s (.h (.s (.s (.s (.s (.s (.s (.s (.s .z))))))))) ?_ | refine .s (.x .z) ?_ | refine .s (.x (.s .z)) ?_ | refine .s (.x (.s (.s .z))) ?_ | refine .s (.x (.s (.s (.s .z)))) ?_ | refine .s (.x (.s (.s (.s (.s .z))))) ?_ | refine .s (.x (.s (.s (.s (.s (.s .z)))))) ?_ | refine .s (.x (.s (.s (.s (.s (.s (.s .z))))))) ?_)) (fun h99 => ?_) (fun h99 => ?_)
                          · first
                            | (exfalso; first | omega | (simp_all; done))
                            |
                              refine r_not rfl rfl rfl ?_
                              refine r_move rfl rfl rfl ?_
                              refine r_move rfl rfl rfl ?_
                              refine r_move rfl rfl rfl ?_
                              refine s_callV cb_51 rfl rfl rfl rfl rfl (eqI_nil _ _ _ _) (by repeat (first | exact .z | refine .s (.h .z) ?_ | refine .s (.h (.s .z)) ?_ | refine .s (.h (.s (.s .z))) ?_ | refine .s (.h (.s (.s (.s .z)))) ?_ | refine .s (.h (.s (.s (.s (.s .z))))) ?_ | refine .s (.h (.s (.s (.s (.s (.s .z)))))) ?_ | refine .s (.h (.s (.s (.s (.s (.s (.s .z))))))) ?_ | refine .s (.h (.s (.s (.s (.s (.s (.s (.s .z)))))))) ?_ | refine .s (.h (.s (.s (.s (.s (.s (.s (.s (.s .z))))))))) ?_ | refine .s (.x .z) ?_ | refine .s (.x (.s .z)) ?_ | refine .s (.x (.s (.s .z))) ?_ | refine .s (.x (.s (.s (.s .z)))) ?_ | refine .s (.x (.s (.s (.s (.s .z))))) ?_ | refine .s (.x (.s (.s (.s (.s (.s .z)))))) ?_ | refine .s (.x (.s (.s (.s (.s (.s (.s .z))))))) ?_)) (fun h104 => ?_) (fun h104 => ?_)
                              · first
                                | (exfalso; first | omega | (simp_all; done))
                                |
                                  refine r_not rfl rfl rfl ?_
                                  refine r_pick_f rfl rfl rfl rfl ?_
                                  refine r_move rfl rfl rfl ?_
                                  refine r_move rfl rfl rfl ?_
                                  refine r_move rfl rfl rfl ?_
                                  refine s_neq rfl rfl rfl rfl (fun h110 => ?_) (fun h110 => ?_)
                                  · first
                                    | (exfalso; first | omega | (simp_all; done))
                                    |
                                      refine r_pick_f rfl rfl rfl rfl ?_
                                      refine R_nil ?_
                                      refine K_tn ?_
                                      refine K_cond_t rfl ?_
                                      refine K_seq ?_
                                      refine R_region ?_
                                      refine r_assign rfl rfl rfl ?_
                                      refine R_nil ?_
                                      refine K_tn ?_
                                      refine K_ret ?_
                                      refine K_tr ?_
                                      refine K_done (H' := []) rfl rfl (.s (.tmp rfl) .z) (by repeat (first | exact .z | apply Rems.s Rem.z | apply Rems.s (Rem.s Rem.z) | apply Rems.s (Rem.s (Rem.s Rem.z)) | apply Rems.s (Rem.s (Rem.s (Rem.s Rem.z))) | apply Rems.s (Rem.s (Rem.s (Rem.s (Rem.s Rem.z)))) | apply Rems.s (Rem.s (Rem.s (Rem.s (Rem.s (Rem.s Rem.z))))) | apply Rems.s (Rem.s (Rem.s (Rem.s (Rem.s (Rem.s (Rem.s Rem.z)))))) | apply Rems.s (Rem.s (Rem.s (Rem.s (Rem.s (Rem.s (Rem.s (Rem.s Rem.z))))))) | apply Rems.s (Rem.s (Rem.s (Rem.s (Rem.s (Rem.s (Rem.s (Rem.s (Rem.s Rem.z)))))))) | apply Rems.s (Rem.s (Rem.s (Rem.s (Rem.s (Rem.s (Rem.s (Rem.s (Rem.s (Rem.s Rem.z))))))))))) ?_
                                      refine ⟨?_, rfl⟩
                                      rfl
                                  · first
                                    | (exfalso; first | omega | (simp_all; done))
                                    |
                                      refine r_pick_f rfl rfl rfl rfl ?_
                                      refine R_nil ?_
                                      refine K_tn ?_
                                      refine K_cond_f rfl ?_
                                      refine K_skip ?_
                                      refine K_tn ?_
                                      refine K_seq ?_
                                      refine R_region ?_
                                      refine r_assign rfl rfl rfl ?_
                                      refine R_nil ?_
                                      refine K_tn ?_
                                      refine K_seq ?_
                                      refine R_region ?_
                                      refine r_move rfl rfl rfl ?_
                                      refine r_move rfl rfl rfl ?_
                                      refine r_callV cb_53 rfl rfl rfl rfl rfl (heldI_nil 1 _ _) (by repeat (first | exact .z | refine .s (.h .z) ?_ | refine .s (.h (.s .z)) ?_ | refine .s (.h (.s (.s .z))) ?_ | refine .s (.h (.s (.s (.s .z)))) ?_ | refine .s (.h (.s (.s (.s (.s .z))))) ?_ | refine .s (.h (.s (.s (.s (.s (.s .z)))))) ?_ | refine .s (.h (.s (.s (.s (.s (.s (.s .z))))))) ?_ | refine .s (.h (.s (.s (.s (.s (.s (.s (.s .z)))))))) ?_ | refine .s (.h (.s (.s (.s (.s (.s (.s (.s (.s .z))))))))) ?_ | refine .s (.x .z) ?_ | refine .s (.x (.s .z)) ?_ | refine .s (.x (.s (.s .z))) ?_ | refine .s (.x (.s (.s (.s .z)))) ?_ | refine .s (.x (.s (.s (.s (.s .z))))) ?_ | refine .s (.x (.s (.s (.s (.s (.s .z)))))) ?_ | refine .s (.x (.s (.s (.s (.s (.s (.s .z))))))) ?_)) ?_
                                      refine r_assign rfl rfl rfl ?_
                                      refine R_nil ?_
                                      refine K_tn ?_
                                      refine K_seq ?_
                                      refine K_seq ?_
                                      refine R_region ?_
                                      refine r_move rfl rfl rfl ?_
                                      refine s_lss rfl rfl rfl rfl (fun h116 => ?_) (fun h116 => ?_)
                                      · first
                                        | (exfalso; first | omega | (simp_all; done))
                                        |
                                          refine R_nil ?_
                                          refine K_tn ?_
                                          refine K_cond_t rfl ?_
                                          refine K_seq ?_
                                          refine R_region ?_
                                          refine r_assign rfl rfl rfl ?_
                                          refine R_nil ?_
                                          refine K_tn ?_
                                          refine K_ret ?_
                                          refine K_tr ?_
                                          refine K_done (H' := []) rfl rfl (.s (.tmp rfl) .z) (by repeat (first | exact .z | apply Rems.s Rem.z | apply Rems.s (Rem.s Rem.z) | apply Rems.s (Rem.s (Rem.s Rem.z)) | apply Rems.s (Rem.s (Rem.s (Rem.s Rem.z))) | apply Rems.s (Rem.s (Rem.s (Rem.s (Rem.s Rem.z)))) | apply Rems.s (Rem.s (Rem.s (Rem.s (Rem.s (Rem.s Rem.z))))) | apply Rems.s (Rem.s (Rem.s (Rem.s (Rem.s (Rem.s (Rem.s Rem.z)))))) | apply Rems.s (Rem.s (Rem.s (Rem.s (Rem.s (Rem.s (Rem.s (Rem.s Rem.z))))))) | apply Rems.s (Rem.s (Rem.s (Rem.s (Rem.s (Rem.s (Rem.s (Rem.s (Rem.s Rem.z)))))))) | apply Rems.s (Rem.s (Rem.s (Rem.s (Rem.s (Rem.s (Rem.s (Rem.s (Rem.s (Rem.s Rem.z))))))))))) ?_
                                          refine ⟨?_, rfl⟩
                                          rfl
                                      · first
                                        | (exfalso; first | omega | (simp_all; done))
                                        |
                                          refine R_nil ?_
                                          refine K_tn ?_
                                          refine K_cond_f rfl ?_
                                          refine K_skip ?_
                                          refine K_tn ?_
                                          refine K_seq ?_
                                          refine R_region ?_
                                          refine r_move rfl rfl rfl ?_
                                          refine r_move rfl rfl rfl ?_
                                          refine r_callV cb_53 rfl rfl rfl rfl rfl (heldI_nil 1 _ _) (by repeat (first | exact .z | refine .s (.h .z) ?_ | refine .s (.h (.s .z)) ?_ | refine .s (.h (.s (.s .z))) ?_ | refine .s (.h (.s (.s (.s .z)))) ?_ | refine .s (.h (.s (.s (.s (.s .z))))) ?_ | refine .s (.h (.s (.s (.s (.s (.s .z)))))) ?_ | refine .s (.h (.s (.s (.s (.s (.s (.s .z))))))) ?_ | refine .s (.h (.s (.s (.s (.s (.s (.s (.s .z)))))))) ?_ | refine .s (.h (.s (.s (.s (.s (.s (.s (.s (.s .z))))))))) ?_ | refine .s (.x .z) ?_ | refine .s (.x (.s .z)) ?_ | refine .s (.x (.s (.s .z))) ?_ | refine .s (.x (.s (.s (.s .z)))) ?_ | refine .s (.x (.s (.s (.s (.s .z))))) ?_ | refine .s (.x (.s (.s (.s (.s (.s .z)))))) ?_ | refine .s (.x (.s (.s (.s (.s (.s (.s .z))))))) ?_)) ?_
                                          refine r_assign rfl rfl rfl ?_
                                          refine R_nil ?_
                                          refine K_tn ?_
                                          refine K_seq ?_
                                          refine K_seq ?_
                                          refine R_region ?_
                                          refine r_move rfl rfl rfl ?_
                                          refine s_lss rfl rfl rfl rfl (fun h121 => ?_) (fun h121 => ?_)
                                          · first
                                            | (exfalso; first | omega | (simp_all; done))
                                            |
                                              refine R_nil ?_
                                              refine K_tn ?_
                                              refine K_cond_t rfl ?_
                                              refine K_seq ?_
                                              refine R_region ?_
                                              refine r_assign rfl rfl rfl ?_
                                              refine R_nil ?_
                                              refine K_tn ?_
                                              refine K_ret ?_
                                              refine K_tr ?_
                                              refine K_done (H' := []) rfl rfl (.s (.tmp rfl) .z) (by repeat (first | exact .z | apply Rems.s Rem.z | apply Rems.s (Rem.s Rem.z) | apply Rems.s (Rem.s (Rem.s Rem.z)) | apply Rems.s (Rem.s (Rem.s (Rem.s Rem.z))) | apply Rems.s (Rem.s (Rem.s (Rem.s (Rem.s Rem.z)))) | apply Rems.s (Rem.s (Rem.s (Rem.s (Rem.s (Rem.s Rem.z))))) | apply Rems.s (Rem.s (Rem.s (Rem.s (Rem.s (Rem.s (Rem.s Rem.z)))))) | apply Rems.s (Rem.s (Rem.s (Rem.s (Rem.s (Rem.s (Rem.s (Rem.s Rem.z))))))) | apply Rems.s (Rem.s (Rem.s (Rem.s (Rem.s (Rem.s (Rem.s (Rem.s (Rem.s Rem.z)))))))) | apply Rems.s (Rem.s (Rem.s (Rem.s (Rem.s (Rem.s (Rem.s (Rem.s (Rem.s (Rem.s Rem.z))))))))))) ?_
                                              refine ⟨?_, rfl⟩
                                              rfl
                                          · first
                                            | (exfalso; first | omega | (simp_all; done))
                                            |
                                              refine R_nil ?_
                                              refine K_tn ?_
                                              refine K_cond_f rfl ?_
                                              refine K_skip ?_
                                              refine K_tn ?_
                                              refine K_seq ?_
                                              refine K_seq ?_
                                              refine R_region ?_
                                              refine r_move rfl rfl rfl ?_
                                              refine r_move rfl rfl rfl ?_
                                              refine s_neq rfl rfl rfl rfl (fun h124 => ?_) (fun h124 => ?_)
                                              · first
                                                | (exfalso; first | omega | (simp_all; done))
                                                |
                                                  refine R_nil ?_
                                                  refine K_tn ?_
                                                  refine K_cond_t rfl ?_
                                                  refine K_seq ?_
                                                  refine R_region ?_
                                                  refine r_assign rfl rfl rfl ?_
                                                  refine R_nil ?_
                                                  refine K_tn ?_
                                                  refine K_ret ?_
                                                  refine K_tr ?_
                                                  refine K_done (H' := []) rfl rfl (.s (.tmp rfl) .z) (by repeat (first | exact .z | apply Rems.s Rem.z | apply Rems.s (Rem.s Rem.z) | apply Rems.s (Rem.s (Rem.s Rem.z)) | apply Rems.s (Rem.s (Rem.s (Rem.s Rem.z))) | apply Rems.s (Rem.s (Rem.s (Rem.s (Rem.s Rem.z)))) | apply Rems.s (Rem.s (Rem.s (Rem.s (Rem.s (Rem.s Rem.z))))) | apply Rems.s (Rem.s (Rem.s (Rem.s (Rem.s (Rem.s (Rem.s Rem.z)))))) | apply Rems.s (Rem.s (Rem.s (Rem.s (Rem.s (Rem.s (Rem.s (Rem.s Rem.z))))))) | apply Rems.s (Rem.s (Rem.s (Rem.s (Rem.s (Rem.s (Rem.s (Rem.s (Rem.s Rem.z)))))))) | apply Rems.s (Rem.s (Rem.s (Rem.s (Rem.s (Rem.s (Rem.s (Rem.s (Rem.s (Rem.s Rem.z))))))))))) ?_
                                                  refine ⟨?_, rfl⟩
                                                  rfl
                                              · first
                                                | (exfalso; first | omega | (simp_all; done))
                                                |
                                                  refine R_nil ?_
                                                  refine K_tn ?_
                                                  refine K_cond_f rfl ?_
                                                  refine K_skip ?_
                                                  refine K_tn ?_
                                                  refine K_seq ?_
                                                  refine R_region ?_
                                                  refine r_assign rfl rfl rfl ?_
                                                  refine R_nil ?_
                                                  refine K_tn ?_
                                                  refine K_ret ?_
                                                  refine K_done (H' := []) rfl rfl (.s (.tmp rfl) .z) (by repeat (first | exact .z | apply Rems.s Rem.z | apply Rems.s (Rem.s Rem.z) | apply Rems.s (Rem.s (Rem.s Rem.z)) | apply Rems.s (Rem.s (Rem.s (Rem.s Rem.z))) | apply Rems.s (Rem.s (Rem.s (Rem.s (Rem.s Rem.z)))) | apply Rems.s (Rem.s (Rem.s (Rem.s (Rem.s (Rem.s Rem.z))))) | apply Rems.s (Rem.s (Rem.s (Rem.s (Rem.s (Rem.s (Rem.s Rem.z)))))) | apply Rems.s (Rem.s (Rem.s (Rem.s (Rem.s (Rem.s (Rem.s (Rem.s Rem.z))))))) | apply Rems.s (Rem.s (Rem.s (Rem.s (Rem.s (Rem.s (Rem.s (Rem.s (Rem.s Rem.z)))))))) | apply Rems.s (Rem.s (Rem.s (Rem.s (Rem.s (Rem.s (Rem.s (Rem.s (Rem.s (Rem.s Rem.z))))))))))) ?_
                                                  refine ⟨?_, rfl⟩
                                                  rfl
                              · first
                                | (exfalso; first | omega | (simp_all; done))
                                |
                                  refine r_not rfl rfl rfl ?_
                                  refine r_pick_f rfl rfl rfl rfl ?_
                                  refine r_move rfl rfl rfl ?_
                                  refine r_skip rfl rfl ?_
                                  refine r_skip rfl rfl ?_
                                  refine r_skip rfl rfl ?_
                                  refine r_pick_t rfl rfl rfl rfl ?_
                                  refine R_nil ?_
                                  refine K_tn ?_
                                  refine K_cond_t rfl ?_
                                  refine K_seq ?_
                                  refine R_region ?_
                                  refine r_assign rfl rfl rfl ?_
                                  refine R_nil ?_
                                  refine K_tn ?_
                                  refine K_ret ?_
                                  refine K_tr ?_
                                  refine K_done (H' := []) rfl rfl (.s (.tmp rfl) .z) (by repeat (first | exact .z | apply Rems.s Rem.z | apply Rems.s (Rem.s Rem.z) | apply Rems.s (Rem.s (Rem.s Rem.z)) | apply Rems.s (Rem.s (Rem.s (Rem.s Rem.z))) | apply Rems.s (Rem.s (Rem.s (Rem.s (Rem.s Rem.z)))) | apply Rems.s (Rem.s (Rem.s (Rem.s (Rem.s (Rem.s Rem.z))))) | apply Rems.s (Rem.s (Rem.s (Rem.s (Rem.s (Rem.s (Rem.s Rem.z)))))) | apply Rems.s (Rem.s (Rem.s (Rem.s (Rem.s (Rem.s (Rem.s (Rem.s Rem.z))))))) | apply Rems.s (Rem.s (Rem.s (Rem.s (Rem.s (Rem.s (Rem.s (Rem.s (Rem.s Rem.z)))))))) | apply Rems.s (Rem.s (Rem.s (Rem.s (Rem.s (Rem.s (Rem.s (Rem.s (Rem.s (Rem.s Rem.z))))))))))) ?_
                                  refine ⟨?_, rfl⟩
                                  rfl
                          · first
                            | (exfalso; first | omega | (simp_all; done))
                            |
                              refine r_not rfl rfl rfl ?_
                              refine r_move rfl rfl rfl ?_
                              refine r_skip rfl rfl ?_
                              refine r_skip rfl rfl ?_
                              refine r_skip rfl rfl ?_
                              refine r_skip rfl rfl ?_
                              refine r_pick_t rfl rfl rfl rfl ?_
                              refine r_move rfl rfl rfl ?_
                              refine r_skip rfl rfl ?_
                              refine r_skip rfl rfl ?_
                              refine r_skip rfl rfl ?_
                              refine r_pick_t rfl rfl rfl rfl ?_
                              refine R_nil ?_
                              refine K_tn ?_
                              refine K_cond_t rfl ?_
                              refine K_seq ?_
                              refine R_region ?_
                              refine r_assign rfl rfl rfl ?_
                              refine R_nil ?_
                              refine K_tn ?_
                              refine K_ret ?_
                              refine K_tr ?_
                              refine K_done (H' := []) rfl rfl (.s (.tmp rfl) .z) (by repeat (first | exact .z | apply Rems.s Rem.z | apply Rems.s (Rem.s Rem.z) | apply Rems.s (Rem.s (Rem.s Rem.z)) | apply Rems.s (Rem.s (Rem.s (Rem.s Rem.z))) | apply Rems.s (Rem.s (Rem.s (Rem.s (Rem.s Rem.z)))) | apply Rems.s (Rem.s (Rem.s (Rem.s (Rem.s (Rem.s Rem.z))))) | apply Rems.s (Rem.s (Rem.s (Rem.s (Rem.s (Rem.s (Rem.s Rem.z)))))) | apply Rems.s (Rem.s (Rem.s (Rem.s (Rem.s (Rem.s (Rem.s (Rem.s Rem.z))))))) | apply Rems.s (Rem.s (Rem.s (Rem.s (Rem.s (Rem.s (Rem.s (Rem.s (Rem.s Rem.z)))))))) | apply Rems.s (Rem.s (Rem.s (Rem.s (Rem.s (Rem.s (Rem.s (Rem.s (Rem.s (Rem.s Rem.z))))))))))) ?_
                              refine ⟨?_, rfl⟩
                              rfl
      · first
        | (exfalso; first | omega | (simp_all; done))
        |
          refine r_not rfl rfl rfl ?_
          refine r_pick_f rfl rfl rfl rfl ?_
          refine r_move rfl rfl rfl ?_
          refine r_skip rfl rfl ?_
          refine r_skip rfl rfl ?_
          refine r_skip rfl rfl ?_
          refine r_pick_t rfl rfl rfl rfl ?_
          refine R_nil ?_
          refine K_tn ?_
          refine K_cond_t rfl ?_
          refine K_seq ?_
          refine R_region ?_
          refine r_assign rfl rfl rfl ?_
          refine R_nil ?_
          refine K_tn ?_
          refine K_ret ?_
          refine K_tr ?_
          refine K_done (H' := []) rfl rfl (.s (.tmp rfl) .z) (by repeat (first | exact .z | apply Rems.s Rem.z | apply Rems.s (Rem.s Rem.z) | apply Rems.s (Rem.s (Rem.s Rem.z)) | apply Rems.s (Rem.s (Rem.s (Rem.s Rem.z))) | apply Rems.s (Rem.s (Rem.s (Rem.s (Rem.s Rem.z)))) | apply Rems.s (Rem.s (Rem.s (Rem.s (Rem.s (Rem.s Rem.z))))) | apply Rems.s (Rem.s (Rem.s (Rem.s (Rem.s (Rem.s (Rem.s Rem.z)))))) | apply Rems.s (Rem.s (Rem.s (Rem.s (Rem.s (Rem.s (Rem.s (Rem.s Rem.z))))))) | apply Rems.s (Rem.s (Rem.s (Rem.s (Rem.s (Rem.s (Rem.s (Rem.s (Rem.s Rem.z)))))))) | apply Rems.s (Rem.s (Rem.s (Rem.s (Rem.s (Rem.s (Rem.s (Rem.s (Rem.s (Rem.s Rem.z))))))))))) ?_
          refine ⟨?_, rfl⟩
          rfl
  · first
    | (exfalso; first | omega | (simp_all; done))
    |
      refine r_not rfl rfl rfl ?_
      refine r_move rfl rfl rfl ?_
      refine r_skip rfl rfl ?_
      refine r_skip rfl rfl ?_
      refine r_skip rfl rfl ?_
      refine r_skip rfl rfl ?_
      refine r_pick_t rfl rfl rfl rfl ?_
      refine r_move rfl rfl rfl ?_
      refine r_skip rfl rfl ?_
      refine r_skip rfl rfl ?_
      refine r_skip rfl rfl ?_
      refine r_pick_t rfl rfl rfl rfl ?_
      refine R_nil ?_
      refine K_tn ?_
      refine K_cond_t rfl ?_
      refine K_seq ?_
      refine R_region ?_
      refine r_assign rfl rfl rfl ?_
      refine R_nil ?_
      refine K_tn ?_
      refine K_ret ?_
      refine K_tr ?_
      refine K_done (H' := []) rfl rfl (.s (.tmp rfl) .z) (by repeat (first | exact .z | apply Rems.s Rem.z | apply Rems.s (Rem.s Rem.z) | apply Rems.s (Rem.s (Rem.s Rem.z)) | apply Rems.s (Rem.s (Rem.s (Rem.s Rem.z))) | apply Rems.s (Rem.s (Rem.s (Rem.s (Rem.s Rem.z)))) | apply Rems.s (Rem.s (Rem.s (Rem.s (Rem.s (Rem.s Rem.z))))) | apply Rems.s (Rem.s (Rem.s (Rem.s (Rem.s (Rem.s (Rem.s Rem.z)))))) | apply Rems.s (Rem.s (Rem.s (Rem.s (Rem.s (Rem.s (Rem.s (Rem.s Rem.z))))))) | apply Rems.s (Rem.s (Rem.s (Rem.s (Rem.s (Rem.s (Rem.s (Rem.s (Rem.s Rem.z)))))))) | apply Rems.s (Rem.s (Rem.s (Rem.s (Rem.s (Rem.s (Rem.s (Rem.s (Rem.s (Rem.s Rem.z))))))))))) ?_
      refine ⟨?_, rfl⟩
      rfl

theorem law_EarlyAndLate (n : Int) (rs : List Nat) (hl : rs.length = 16) (hn : -128 ≤ n ∧ n ≤ 127) (m : Int) (fs : List Nat) (hf : fs.length = 16) (hm : -128 ≤ m ∧ m ≤ 127) (c g lo hi : Nat) : SpecV Try.prog 15 [.agg (.int .i8 n :: fl .f32 rs).toArray, .float .f32 c, .float .f32 g, .agg (.int .i8 m :: fl .f32 fs).toArray, .float .f32 lo, .float .f32 hi] [] (.bool true) := by
  cases h : (okC n rs m fs [c, g, lo, hi] && fle lo hi) with
  | false => exact law_EL_no n rs hl hn m fs hf hm c g lo hi h
  | true =>
    rw [Bool.and_eq_true] at h
    obtain ⟨hvm, hv, _⟩ := okC_4 h.1
    have h0 := vCrate_in hvm
    have h1 := vCrate_in hv
    obtain ⟨n0, rfl⟩ := Int.eq_ofNat_of_zero_le h1.1
    obtain ⟨m0, rfl⟩ := Int.eq_ofNat_of_zero_le h0.1
    exact law_EL_ok n0 rs hl (by omega) m0 fs hf (by omega) c g lo hi h.1 h.2

end Go.Proofs.Ytpanpkmheeenjaa
