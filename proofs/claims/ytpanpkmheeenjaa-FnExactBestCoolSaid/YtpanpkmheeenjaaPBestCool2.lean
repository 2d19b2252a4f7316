/- Walks of the functions of the program and of the reference, and what each of them returns. -/
import Derived.Test.YtpanpkmheeenjaaPBestCool1
set_option linter.unusedVariables false
set_option linter.unusedSimpArgs false
namespace Go.Proofs.Ytpanpkmheeenjaa
open Go.Sl
set_option maxRecDepth 20000 in
theorem l04Sorted (b : Nat) (n : Nat) (rs : List Nat) (hl : rs.length = 16) (hn : n ≤ 16) (u : TypeId) (fr : Nat × Nat) (b2 : Nat) (m : Nat) (fs : List Nat) (hf : fs.length = 16) (hm : m ≤ 16) (u3 : TypeId) (fr3 : Nat × Nat) (c g lo hi : Nat) (hv : vCrate n rs = true) (hc : isPart c = true) (hg : isPart g = true) (hvm : vCrate m fs = true) : Go.Sl.Spec Try.prog 85 [.pointer (some ⟨b, 0, none⟩), .float .f32 c, .float .f32 g, .pointer (some ⟨b2, 0, none⟩), .float .f32 lo, .float .f32 hi] [(b, .cells (.int .i8 (n : Int) :: fl .f32 rs).toArray u fr), (b2, .cells (.int .i8 (m : Int) :: fl .f32 fs).toArray u3 fr3)] [] (RowII (filterI m (isEarly (arrF n rs c g) fs hi)) (filterI m (isLate (arrF n rs c g) fs lo))) := by
  refine spec_of Try.func85 rfl Try.ntmps85 rfl (fun w0 => ?_)
  refine K_seq ?_
  refine R_region ?_
  refine r_assign rfl rfl rfl ?_
  refine r_assign rfl rfl rfl ?_
  refine R_nil ?_
  refine K_tn ?_
  refine K_seq ?_
  refine R_region ?_
  refine r_buildSlice sl_60 sz_2 zr_2 rfl rfl rfl rfl rfl (by first | rfl) (fun b18 => ?_)
  refine r_assign rfl rfl rfl ?_
  refine R_nil ?_
  refine K_tn ?_
  refine K_seq ?_
  refine R_region ?_
  refine r_buildSlice sl_60 sz_2 zr_2 rfl rfl rfl rfl rfl (by first | rfl) (fun b19 => ?_)
  refine r_assign rfl rfl rfl ?_
  refine R_nil ?_
  refine K_tn ?_
  refine K_seq ?_
  refine K_seq ?_
  refine R_region ?_
  refine r_assign rfl rfl rfl ?_
  refine R_nil ?_
  refine K_tn ?_
  refine K_block ?_
  refine K_loop3 (fun (k : Nat) (p q : RowP) => k ≤ m ∧ (filterI k (isEarly (arrF n rs c g) fs hi)).length + p.junk.length = p.cap ∧ (filterI k (isLate (arrF n rs c g) fs lo)).length + q.junk.length = q.cap) (fun k p q => [(0, .pointer (some ⟨b, 0, none⟩)), (1, .float .f32 c), (2, .float .f32 g), (3, .pointer (some ⟨b2, 0, none⟩)), (4, .float .f32 lo), (5, .float .f32 hi), (14, .slice (some ⟨p.b, 0, none⟩) (filterI k (isEarly (arrF n rs c g) fs hi)).length p.cap), (15, .slice (some ⟨q.b, 0, none⟩) (filterI k (isLate (arrF n rs c g) fs lo)).length q.cap), (16, .int .i64 (k : Int))]) (fun k p q => [(p.b, .cells (il (filterI k (isEarly (arrF n rs c g) fs hi)) ++ p.junk).toArray p.u (0, 0)), (q.b, .cells (il (filterI k (isLate (arrF n rs c g) fs lo)) ++ q.junk).toArray q.u (0, 0))]) (fun k _ _ => m - k) 0 ⟨b18, 0, [], 2⟩ ⟨b19, 0, [], 2⟩ (by exact ⟨Nat.zero_le _, rfl, rfl⟩) (by repeat (first | exact trivial | refine ⟨rfl, ?_⟩)) (by repeat (first | exact .z | apply Rems.s Rem.z | apply Rems.s (Rem.s Rem.z) | apply Rems.s (Rem.s (Rem.s Rem.z)) | apply Rems.s (Rem.s (Rem.s (Rem.s Rem.z))) | apply Rems.s (Rem.s (Rem.s (Rem.s (Rem.s Rem.z)))) | apply Rems.s (Rem.s (Rem.s (Rem.s (Rem.s (Rem.s Rem.z))))) | apply Rems.s (Rem.s (Rem.s (Rem.s (Rem.s (Rem.s (Rem.s Rem.z)))))) | apply Rems.s (Rem.s (Rem.s (Rem.s (Rem.s (Rem.s (Rem.s (Rem.s Rem.z))))))) | apply Rems.s (Rem.s (Rem.s (Rem.s (Rem.s (Rem.s (Rem.s (Rem.s (Rem.s Rem.z)))))))) | apply Rems.s (Rem.s (Rem.s (Rem.s (Rem.s (Rem.s (Rem.s (Rem.s (Rem.s (Rem.s Rem.z))))))))))) (fun k p q hq0 => ?_)
  obtain ⟨hk, hq1, hq2⟩ := hq0
  refine K_seq ?_
  refine K_seq ?_
  refine R_region ?_
  refine r_move rfl rfl rfl ?_
  refine r_move rfl rfl rfl ?_
  refine r_nilCheck rfl rfl rfl ?_
  refine r_fieldAddr fd_54_0 rfl rfl rfl ?_
  refine r_load ag_22 rfl rfl rfl (by first | exact .h .z | exact .h (.s .z) | exact .h (.s (.s .z)) | exact .h (.s (.s (.s .z))) | exact .h (.s (.s (.s (.s .z)))) | exact .h (.s (.s (.s (.s (.s .z))))) | exact .h (.s (.s (.s (.s (.s (.s .z)))))) | exact .h (.s (.s (.s (.s (.s (.s (.s .z))))))) | exact .h (.s (.s (.s (.s (.s (.s (.s (.s .z)))))))) | exact .x .z | exact .x (.s .z) | exact .x (.s (.s .z)) | exact .x (.s (.s (.s .z))) | exact .x (.s (.s (.s (.s .z)))) | exact .x (.s (.s (.s (.s (.s .z))))) | exact .x (.s (.s (.s (.s (.s (.s .z))))))) (by first | rfl | exact gC (by omega) | exact takeC (by omega) | exact takeC0 (by omega)) ?_
  refine r_convI ⟨_, un_22⟩ un_3 rfl rfl rfl (i64K (by omega) (by omega)) ?_
  refine s_lss rfl rfl rfl rfl (fun h26 => ?_) (fun h26 => ?_)
  · first
    | (exfalso; omega)
    |
      refine R_nil ?_
      refine K_tn ?_
      refine K_cond_t rfl ?_
      refine K_skip ?_
      refine K_tn ?_
      refine K_seq ?_
      refine K_block ?_
      refine K_seq ?_
      refine R_region ?_
      have hle1 := filterI_le k (isEarly (arrF n rs c g) fs hi)
      have hle2 := filterI_le k (isLate (arrF n rs c g) fs lo)
      have hpp := vAt_part hvm (i := k) (by omega)
      refine r_move rfl rfl rfl ?_
      refine r_move rfl rfl rfl ?_
      refine r_move rfl rfl rfl ?_
      refine r_move rfl rfl rfl ?_
      refine r_move rfl rfl rfl ?_
      refine r_nilCheck rfl rfl rfl ?_
      refine r_fieldAddr fd_54_1 rfl rfl rfl ?_
      refine r_indexA ar_24 sz_23 rfl rfl rfl rfl (by omega) ?_
      refine r_load ag_23 rfl rfl rfl (by first | exact .h .z | exact .h (.s .z) | exact .h (.s (.s .z)) | exact .h (.s (.s (.s .z))) | exact .h (.s (.s (.s (.s .z)))) | exact .h (.s (.s (.s (.s (.s .z))))) | exact .h (.s (.s (.s (.s (.s (.s .z)))))) | exact .h (.s (.s (.s (.s (.s (.s (.s .z))))))) | exact .h (.s (.s (.s (.s (.s (.s (.s (.s .z)))))))) | exact .x .z | exact .x (.s .z) | exact .x (.s (.s .z)) | exact .x (.s (.s (.s .z))) | exact .x (.s (.s (.s (.s .z)))) | exact .x (.s (.s (.s (.s (.s .z))))) | exact .x (.s (.s (.s (.s (.s (.s .z))))))) (by first | rfl | exact gC (by omega) | exact takeC (by omega) | exact takeC0 (by omega)) ?_
      refine r_callV cb_73 rfl rfl rfl rfl rfl (l04Ripe _ n rs hl (by omega) _ _ c g (fs.getD k 0) 0 hv hc hg hpp (Nat.zero_le _)) (by repeat (first | exact .z | refine .s (.h .z) ?_ | refine .s (.h (.s .z)) ?_ | refine .s (.h (.s (.s .z))) ?_ | refine .s (.h (.s (.s (.s .z)))) ?_ | refine .s (.h (.s (.s (.s (.s .z))))) ?_ | refine .s (.h (.s (.s (.s (.s (.s .z)))))) ?_ | refine .s (.h (.s (.s (.s (.s (.s (.s .z))))))) ?_ | refine .s (.h (.s (.s (.s (.s (.s (.s (.s .z)))))))) ?_ | refine .s (.h (.s (.s (.s (.s (.s (.s (.s (.s .z))))))))) ?_ | refine .s (.x .z) ?_ | refine .s (.x (.s .z)) ?_ | refine .s (.x (.s (.s .z))) ?_ | refine .s (.x (.s (.s (.s .z)))) ?_ | refine .s (.x (.s (.s (.s (.s .z))))) ?_ | refine .s (.x (.s (.s (.s (.s (.s .z)))))) ?_ | refine .s (.x (.s (.s (.s (.s (.s (.s .z))))))) ?_)) ?_
      refine r_assign rfl rfl rfl ?_
      refine R_nil ?_
      refine K_tn ?_
      refine K_seq ?_
      refine K_seq ?_
      refine R_region ?_
      refine r_move rfl rfl rfl ?_
      refine r_move rfl rfl rfl ?_
      refine s_fcmp rfl rfl rfl rfl (fun _ _ => run_fgt) (fun h41 => ?_) (fun h41 => ?_)
      · first
        | (exfalso; omega)
        |
          refine R_nil ?_
          refine K_tn ?_
          refine K_cond_t rfl ?_
          refine R_region ?_
          refine r_move rfl rfl rfl ?_
          refine r_move rfl rfl rfl ?_
          refine r_buildSlice sl_60 sz_2 zr_2 rfl rfl rfl rfl rfl (by first | rfl) (fun b44 => ?_)
          refine r_appendI sl_60 sl_60 sz_2 zr_2 rfl by_2 rfl rfl rfl rfl rfl (by first | exact .h .z | exact .h (.s .z) | exact .h (.s (.s .z)) | exact .h (.s (.s (.s .z))) | exact .h (.s (.s (.s (.s .z)))) | exact .h (.s (.s (.s (.s (.s .z))))) | exact .h (.s (.s (.s (.s (.s (.s .z)))))) | exact .h (.s (.s (.s (.s (.s (.s (.s .z))))))) | exact .h (.s (.s (.s (.s (.s (.s (.s (.s .z)))))))) | exact .x .z | exact .x (.s .z) | exact .x (.s (.s .z)) | exact .x (.s (.s (.s .z))) | exact .x (.s (.s (.s (.s .z)))) | exact .x (.s (.s (.s (.s (.s .z))))) | exact .x (.s (.s (.s (.s (.s (.s .z))))))) (by first | exact .z | exact (.s .z) | exact (.s (.s .z)) | exact (.s (.s (.s .z))) | exact (.s (.s (.s (.s .z)))) | exact (.s (.s (.s (.s (.s .z))))) | exact (.s (.s (.s (.s (.s (.s .z)))))) | exact (.s (.s (.s (.s (.s (.s (.s .z))))))) | exact (.s (.s (.s (.s (.s (.s (.s (.s .z)))))))) | exact (.s (.s (.s (.s (.s (.s (.s (.s (.s .z)))))))))) (by omega) (by omega) (by omega) (fun b45 cap45 junk45 u45 hj45 => ?_)
          refine r_assign rfl rfl rfl ?_
          refine R_nil ?_
          refine K_tn ?_
          refine K_seq ?_
          refine R_region ?_
          refine r_move rfl rfl rfl ?_
          refine r_move rfl rfl rfl ?_
          refine s_fcmp rfl rfl rfl rfl (fun _ _ => run_flt) (fun h48 => ?_) (fun h48 => ?_)
          · first
            | (exfalso; omega)
            |
              refine R_nil ?_
              refine K_tn ?_
              refine K_cond_t rfl ?_
              refine R_region ?_
              refine r_move rfl rfl rfl ?_
              refine r_move rfl rfl rfl ?_
              refine r_buildSlice sl_60 sz_2 zr_2 rfl rfl rfl rfl rfl (by first | rfl) (fun b51 => ?_)
              refine r_appendI sl_60 sl_60 sz_2 zr_2 rfl by_2 rfl rfl rfl rfl rfl (by first | exact .h .z | exact .h (.s .z) | exact .h (.s (.s .z)) | exact .h (.s (.s (.s .z))) | exact .h (.s (.s (.s (.s .z)))) | exact .h (.s (.s (.s (.s (.s .z))))) | exact .h (.s (.s (.s (.s (.s (.s .z)))))) | exact .h (.s (.s (.s (.s (.s (.s (.s .z))))))) | exact .h (.s (.s (.s (.s (.s (.s (.s (.s .z)))))))) | exact .x .z | exact .x (.s .z) | exact .x (.s (.s .z)) | exact .x (.s (.s (.s .z))) | exact .x (.s (.s (.s (.s .z)))) | exact .x (.s (.s (.s (.s (.s .z))))) | exact .x (.s (.s (.s (.s (.s (.s .z))))))) (by first | exact .z | exact (.s .z) | exact (.s (.s .z)) | exact (.s (.s (.s .z))) | exact (.s (.s (.s (.s .z)))) | exact (.s (.s (.s (.s (.s .z))))) | exact (.s (.s (.s (.s (.s (.s .z)))))) | exact (.s (.s (.s (.s (.s (.s (.s .z))))))) | exact (.s (.s (.s (.s (.s (.s (.s (.s .z)))))))) | exact (.s (.s (.s (.s (.s (.s (.s (.s (.s .z)))))))))) (by omega) (by omega) (by omega) (fun b52 cap52 junk52 u52 hj52 => ?_)
              refine r_assign rfl rfl rfl ?_
              refine R_nil ?_
              refine K_bn ?_
              refine K_tn ?_
              refine R_region ?_
              refine r_move rfl rfl rfl ?_
              first | refine r_addN rfl rfl rfl rfl (i64K (by omega) (by omega)) ?_ | refine r_add rfl rfl rfl rfl (i64K (by omega) (by omega)) ?_
              refine r_assign rfl rfl rfl ?_
              refine R_nil ?_
              refine K_tn ?_
              first | (have hE := filterI_t (P := (isEarly (arrF n rs c g) fs hi)) (k := k) h41; have hEl := filterI_tl (P := (isEarly (arrF n rs c g) fs hi)) (k := k) h41; rw [hE, hEl]) | (have hE := filterI_f (P := (isEarly (arrF n rs c g) fs hi)) (k := k) h41; have hEl := congrArg List.length hE; rw [hE])
              first | (have hL := filterI_t (P := (isLate (arrF n rs c g) fs lo)) (k := k) h48; have hLl := filterI_tl (P := (isLate (arrF n rs c g) fs lo)) (k := k) h48; rw [hL, hLl]) | (have hL := filterI_f (P := (isLate (arrF n rs c g) fs lo)) (k := k) h48; have hLl := congrArg List.length hL; rw [hL])
              first | (exact K_again3 (pre := (fun (k : Nat) (p q : RowP) => k ≤ m ∧ (filterI k (isEarly (arrF n rs c g) fs hi)).length + p.junk.length = p.cap ∧ (filterI k (isLate (arrF n rs c g) fs lo)).length + q.junk.length = q.cap)) (Ei := (fun k p q => [(0, .pointer (some ⟨b, 0, none⟩)), (1, .float .f32 c), (2, .float .f32 g), (3, .pointer (some ⟨b2, 0, none⟩)), (4, .float .f32 lo), (5, .float .f32 hi), (14, .slice (some ⟨p.b, 0, none⟩) (filterI k (isEarly (arrF n rs c g) fs hi)).length p.cap), (15, .slice (some ⟨q.b, 0, none⟩) (filterI k (isLate (arrF n rs c g) fs lo)).length q.cap), (16, .int .i64 (k : Int))])) (Hi := (fun k p q => [(p.b, .cells (il (filterI k (isEarly (arrF n rs c g) fs hi)) ++ p.junk).toArray p.u (0, 0)), (q.b, .cells (il (filterI k (isLate (arrF n rs c g) fs lo)) ++ q.junk).toArray q.u (0, 0))])) (μ := (fun k _ _ => m - k)) (k + 1) (RowP.mk b45 cap45 junk45 u45) (RowP.mk b52 cap52 junk52 u52) (by refine ⟨?_, ?_, ?_⟩ <;> (try simp only) <;> omega) (by omega) (by repeat (first | exact trivial | refine ⟨rfl, ?_⟩)) (by repeat (first | exact .z | apply Rems.s Rem.z | apply Rems.s (Rem.s Rem.z) | apply Rems.s (Rem.s (Rem.s Rem.z)) | apply Rems.s (Rem.s (Rem.s (Rem.s Rem.z))) | apply Rems.s (Rem.s (Rem.s (Rem.s (Rem.s Rem.z)))) | apply Rems.s (Rem.s (Rem.s (Rem.s (Rem.s (Rem.s Rem.z))))) | apply Rems.s (Rem.s (Rem.s (Rem.s (Rem.s (Rem.s (Rem.s Rem.z)))))) | apply Rems.s (Rem.s (Rem.s (Rem.s (Rem.s (Rem.s (Rem.s (Rem.s Rem.z))))))) | apply Rems.s (Rem.s (Rem.s (Rem.s (Rem.s (Rem.s (Rem.s (Rem.s (Rem.s Rem.z)))))))) | apply Rems.s (Rem.s (Rem.s (Rem.s (Rem.s (Rem.s (Rem.s (Rem.s (Rem.s (Rem.s Rem.z)))))))))))) | (exact K_again3 (pre := (fun (k : Nat) (p q : RowP) => k ≤ m ∧ (filterI k (isEarly (arrF n rs c g) fs hi)).length + p.junk.length = p.cap ∧ (filterI k (isLate (arrF n rs c g) fs lo)).length + q.junk.length = q.cap)) (Ei := (fun k p q => [(0, .pointer (some ⟨b, 0, none⟩)), (1, .float .f32 c), (2, .float .f32 g), (3, .pointer (some ⟨b2, 0, none⟩)), (4, .float .f32 lo), (5, .float .f32 hi), (14, .slice (some ⟨p.b, 0, none⟩) (filterI k (isEarly (arrF n rs c g) fs hi)).length p.cap), (15, .slice (some ⟨q.b, 0, none⟩) (filterI k (isLate (arrF n rs c g) fs lo)).length q.cap), (16, .int .i64 (k : Int))])) (Hi := (fun k p q => [(p.b, .cells (il (filterI k (isEarly (arrF n rs c g) fs hi)) ++ p.junk).toArray p.u (0, 0)), (q.b, .cells (il (filterI k (isLate (arrF n rs c g) fs lo)) ++ q.junk).toArray q.u (0, 0))])) (μ := (fun k _ _ => m - k)) (k + 1) (RowP.mk b45 cap45 junk45 u45) q (by refine ⟨?_, ?_, ?_⟩ <;> (try simp only) <;> omega) (by omega) (by repeat (first | exact trivial | refine ⟨rfl, ?_⟩)) (by repeat (first | exact .z | apply Rems.s Rem.z | apply Rems.s (Rem.s Rem.z) | apply Rems.s (Rem.s (Rem.s Rem.z)) | apply Rems.s (Rem.s (Rem.s (Rem.s Rem.z))) | apply Rems.s (Rem.s (Rem.s (Rem.s (Rem.s Rem.z)))) | apply Rems.s (Rem.s (Rem.s (Rem.s (Rem.s (Rem.s Rem.z))))) | apply Rems.s (Rem.s (Rem.s (Rem.s (Rem.s (Rem.s (Rem.s Rem.z)))))) | apply Rems.s (Rem.s (Rem.s (Rem.s (Rem.s (Rem.s (Rem.s (Rem.s Rem.z))))))) | apply Rems.s (Rem.s (Rem.s (Rem.s (Rem.s (Rem.s (Rem.s (Rem.s (Rem.s Rem.z)))))))) | apply Rems.s (Rem.s (Rem.s (Rem.s (Rem.s (Rem.s (Rem.s (Rem.s (Rem.s (Rem.s Rem.z)))))))))))) | (exact K_again3 (pre := (fun (k : Nat) (p q : RowP) => k ≤ m ∧ (filterI k (isEarly (arrF n rs c g) fs hi)).length + p.junk.length = p.cap ∧ (filterI k (isLate (arrF n rs c g) fs lo)).length + q.junk.length = q.cap)) (Ei := (fun k p q => [(0, .pointer (some ⟨b, 0, none⟩)), (1, .float .f32 c), (2, .float .f32 g), (3, .pointer (some ⟨b2, 0, none⟩)), (4, .float .f32 lo), (5, .float .f32 hi), (14, .slice (some ⟨p.b, 0, none⟩) (filterI k (isEarly (arrF n rs c g) fs hi)).length p.cap), (15, .slice (some ⟨q.b, 0, none⟩) (filterI k (isLate (arrF n rs c g) fs lo)).length q.cap), (16, .int .i64 (k : Int))])) (Hi := (fun k p q => [(p.b, .cells (il (filterI k (isEarly (arrF n rs c g) fs hi)) ++ p.junk).toArray p.u (0, 0)), (q.b, .cells (il (filterI k (isLate (arrF n rs c g) fs lo)) ++ q.junk).toArray q.u (0, 0))])) (μ := (fun k _ _ => m - k)) (k + 1) p (RowP.mk b52 cap52 junk52 u52) (by refine ⟨?_, ?_, ?_⟩ <;> (try simp only) <;> omega) (by omega) (by repeat (first | exact trivial | refine ⟨rfl, ?_⟩)) (by repeat (first | exact .z | apply Rems.s Rem.z | apply Rems.s (Rem.s Rem.z) | apply Rems.s (Rem.s (Rem.s Rem.z)) | apply Rems.s (Rem.s (Rem.s (Rem.s Rem.z))) | apply Rems.s (Rem.s (Rem.s (Rem.s (Rem.s Rem.z)))) | apply Rems.s (Rem.s (Rem.s (Rem.s (Rem.s (Rem.s Rem.z))))) | apply Rems.s (Rem.s (Rem.s (Rem.s (Rem.s (Rem.s (Rem.s Rem.z)))))) | apply Rems.s (Rem.s (Rem.s (Rem.s (Rem.s (Rem.s (Rem.s (Rem.s Rem.z))))))) | apply Rems.s (Rem.s (Rem.s (Rem.s (Rem.s (Rem.s (Rem.s (Rem.s (Rem.s Rem.z)))))))) | apply Rems.s (Rem.s (Rem.s (Rem.s (Rem.s (Rem.s (Rem.s (Rem.s (Rem.s (Rem.s Rem.z)))))))))))) | (exact K_again3 (pre := (fun (k : Nat) (p q : RowP) => k ≤ m ∧ (filterI k (isEarly (arrF n rs c g) fs hi)).length + p.junk.length = p.cap ∧ (filterI k (isLate (arrF n rs c g) fs lo)).length + q.junk.length = q.cap)) (Ei := (fun k p q => [(0, .pointer (some ⟨b, 0, none⟩)), (1, .float .f32 c), (2, .float .f32 g), (3, .pointer (some ⟨b2, 0, none⟩)), (4, .float .f32 lo), (5, .float .f32 hi), (14, .slice (some ⟨p.b, 0, none⟩) (filterI k (isEarly (arrF n rs c g) fs hi)).length p.cap), (15, .slice (some ⟨q.b, 0, none⟩) (filterI k (isLate (arrF n rs c g) fs lo)).length q.cap), (16, .int .i64 (k : Int))])) (Hi := (fun k p q => [(p.b, .cells (il (filterI k (isEarly (arrF n rs c g) fs hi)) ++ p.junk).toArray p.u (0, 0)), (q.b, .cells (il (filterI k (isLate (arrF n rs c g) fs lo)) ++ q.junk).toArray q.u (0, 0))])) (μ := (fun k _ _ => m - k)) (k + 1) p q (by refine ⟨?_, ?_, ?_⟩ <;> (try simp only) <;> omega) (by omega) (by repeat (first | exact trivial | refine ⟨rfl, ?_⟩)) (by repeat (first | exact .z | apply Rems.s Rem.z | apply Rems.s (Rem.s Rem.z) | apply Rems.s (Rem.s (Rem.s Rem.z)) | apply Rems.s (Rem.s (Rem.s (Rem.s Rem.z))) | apply Rems.s (Rem.s (Rem.s (Rem.s (Rem.s Rem.z)))) | apply Rems.s (Rem.s (Rem.s (Rem.s (Rem.s (Rem.s Rem.z))))) | apply Rems.s (Rem.s (Rem.s (Rem.s (Rem.s (Rem.s (Rem.s Rem.z)))))) | apply Rems.s (Rem.s (Rem.s (Rem.s (Rem.s (Rem.s (Rem.s (Rem.s Rem.z))))))) | apply Rems.s (Rem.s (Rem.s (Rem.s (Rem.s (Rem.s (Rem.s (Rem.s (Rem.s Rem.z)))))))) | apply Rems.s (Rem.s (Rem.s (Rem.s (Rem.s (Rem.s (Rem.s (Rem.s (Rem.s (Rem.s Rem.z))))))))))))
          · first
            | (exfalso; omega)
            |
              refine R_nil ?_
              refine K_tn ?_
              refine K_cond_f rfl ?_
              refine K_skip ?_
              refine K_bn ?_
              refine K_tn ?_
              refine R_region ?_
              refine r_move rfl rfl rfl ?_
              first | refine r_addN rfl rfl rfl rfl (i64K (by omega) (by omega)) ?_ | refine r_add rfl rfl rfl rfl (i64K (by omega) (by omega)) ?_
              refine r_assign rfl rfl rfl ?_
              refine R_nil ?_
              refine K_tn ?_
              first | (have hE := filterI_t (P := (isEarly (arrF n rs c g) fs hi)) (k := k) h41; have hEl := filterI_tl (P := (isEarly (arrF n rs c g) fs hi)) (k := k) h41; rw [hE, hEl]) | (have hE := filterI_f (P := (isEarly (arrF n rs c g) fs hi)) (k := k) h41; have hEl := congrArg List.length hE; rw [hE])
              first | (have hL := filterI_t (P := (isLate (arrF n rs c g) fs lo)) (k := k) h48; have hLl := filterI_tl (P := (isLate (arrF n rs c g) fs lo)) (k := k) h48; rw [hL, hLl]) | (have hL := filterI_f (P := (isLate (arrF n rs c g) fs lo)) (k := k) h48; have hLl := congrArg List.length hL; rw [hL])
              first | (exact K_again3 (pre := (fun (k : Nat) (p q : RowP) => k ≤ m ∧ (filterI k (isEarly (arrF n rs c g) fs hi)).length + p.junk.length = p.cap ∧ (filterI k (isLate (arrF n rs c g) fs lo)).length + q.junk.length = q.cap)) (Ei := (fun k p q => [(0, .pointer (some ⟨b, 0, none⟩)), (1, .float .f32 c), (2, .float .f32 g), (3, .pointer (some ⟨b2, 0, none⟩)), (4, .float .f32 lo), (5, .float .f32 hi), (14, .slice (some ⟨p.b, 0, none⟩) (filterI k (isEarly (arrF n rs c g) fs hi)).length p.cap), (15, .slice (some ⟨q.b, 0, none⟩) (filterI k (isLate (arrF n rs c g) fs lo)).length q.cap), (16, .int .i64 (k : Int))])) (Hi := (fun k p q => [(p.b, .cells (il (filterI k (isEarly (arrF n rs c g) fs hi)) ++ p.junk).toArray p.u (0, 0)), (q.b, .cells (il (filterI k (isLate (arrF n rs c g) fs lo)) ++ q.junk).toArray q.u (0, 0))])) (μ := (fun k _ _ => m - k)) (k + 1) (RowP.mk b45 cap45 junk45 u45) (RowP.mk b52 cap52 junk52 u52) (by refine ⟨?_, ?_, ?_⟩ <;> (try simp only) <;> omega) (by omega) (by repeat (first | exact trivial | refine ⟨rfl, ?_⟩)) (by repeat (first | exact .z | apply Rems.s Rem.z | apply Rems.s (Rem.s Rem.z) | apply Rems.s (Rem.s (Rem.s Rem.z)) | apply Rems.s (Rem.s (Rem.s (Rem.s Rem.z))) | apply Rems.s (Rem.s (Rem.s (Rem.s (Rem.s Rem.z)))) | apply Rems.s (Rem.s (Rem.s (Rem.s (Rem.s (Rem.s Rem.z))))) | apply Rems.s (Rem.s (Rem.s (Rem.s (Rem.s (Rem.s (Rem.s Rem.z)))))) | apply Rems.s (Rem.s (Rem.s (Rem.s (Rem.s (Rem.s (Rem.s (Rem.s Rem.z))))))) | apply Rems.s (Rem.s (Rem.s (Rem.s (Rem.s (Rem.s (Rem.s (Rem.s (Rem.s Rem.z)))))))) | apply Rems.s (Rem.s (Rem.s (Rem.s (Rem.s (Rem.s (Rem.s (Rem.s (Rem.s (Rem.s Rem.z)))))))))))) | (exact K_again3 (pre := (fun (k : Nat) (p q : RowP) => k ≤ m ∧ (filterI k (isEarly (arrF n rs c g) fs hi)).length + p.junk.length = p.cap ∧ (filterI k (isLate (arrF n rs c g) fs lo)).length + q.junk.length = q.cap)) (Ei := (fun k p q => [(0, .pointer (some ⟨b, 0, none⟩)), (1, .float .f32 c), (2, .float .f32 g), (3, .pointer (some ⟨b2, 0, none⟩)), (4, .float .f32 lo), (5, .float .f32 hi), (14, .slice (some ⟨p.b, 0, none⟩) (filterI k (isEarly (arrF n rs c g) fs hi)).length p.cap), (15, .slice (some ⟨q.b, 0, none⟩) (filterI k (isLate (arrF n rs c g) fs lo)).length q.cap), (16, .int .i64 (k : Int))])) (Hi := (fun k p q => [(p.b, .cells (il (filterI k (isEarly (arrF n rs c g) fs hi)) ++ p.junk).toArray p.u (0, 0)), (q.b, .cells (il (filterI k (isLate (arrF n rs c g) fs lo)) ++ q.junk).toArray q.u (0, 0))])) (μ := (fun k _ _ => m - k)) (k + 1) (RowP.mk b45 cap45 junk45 u45) q (by refine ⟨?_, ?_, ?_⟩ <;> (try simp only) <;> omega) (by omega) (by repeat (first | exact trivial | refine ⟨rfl, ?_⟩)) (by repeat (first | exact .z | apply Rems.s Rem.z | apply Rems.s (Rem.s Rem.z) | apply Rems.s (Rem.s (Rem.s Rem.z)) | apply Rems.s (Rem.s (Rem.s (Rem.s Rem.z))) | apply Rems.s (Rem.s (Rem.s (Rem.s (Rem.s Rem.z)))) | apply Rems.s (Rem.s (Rem.s (Rem.s (Rem.s (Rem.s Rem.z))))) | apply Rems.s (Rem.s (Rem.s (Rem.s (Rem.s (Rem.s (Rem.s Rem.z)))))) | apply Rems.s (Rem.s (Rem.s (Rem.s (Rem.s (Rem.s (Rem.s (Rem.s Rem.z))))))) | apply Rems.s (Rem.s (Rem.s (Rem.s (Rem.s (Rem.s (Rem.s (Rem.s (Rem.s Rem.z)))))))) | apply Rems.s (Rem.s (Rem.s (Rem.s (Rem.s (Rem.s (Rem.s (Rem.s (Rem.s (Rem.s Rem.z)))))))))))) | (exact K_again3 (pre := (fun (k : Nat) (p q : RowP) => k ≤ m ∧ (filterI k (isEarly (arrF n rs c g) fs hi)).length + p.junk.length = p.cap ∧ (filterI k (isLate (arrF n rs c g) fs lo)).length + q.junk.length = q.cap)) (Ei := (fun k p q => [(0, .pointer (some ⟨b, 0, none⟩)), (1, .float .f32 c), (2, .float .f32 g), (3, .pointer (some ⟨b2, 0, none⟩)), (4, .float .f32 lo), (5, .float .f32 hi), (14, .slice (some ⟨p.b, 0, none⟩) (filterI k (isEarly (arrF n rs c g) fs hi)).length p.cap), (15, .slice (some ⟨q.b, 0, none⟩) (filterI k (isLate (arrF n rs c g) fs lo)).length q.cap), (16, .int .i64 (k : Int))])) (Hi := (fun k p q => [(p.b, .cells (il (filterI k (isEarly (arrF n rs c g) fs hi)) ++ p.junk).toArray p.u (0, 0)), (q.b, .cells (il (filterI k (isLate (arrF n rs c g) fs lo)) ++ q.junk).toArray q.u (0, 0))])) (μ := (fun k _ _ => m - k)) (k + 1) p (RowP.mk b52 cap52 junk52 u52) (by refine ⟨?_, ?_, ?_⟩ <;> (try simp only) <;> omega) (by omega) (by repeat (first | exact trivial | refine ⟨rfl, ?_⟩)) (by repeat (first | exact .z | apply Rems.s Rem.z | apply Rems.s (Rem.s Rem.z) | apply Rems.s (Rem.s (Rem.s Rem.z)) | apply Rems.s (Rem.s (Rem.s (Rem.s Rem.z))) | apply Rems.s (Rem.s (Rem.s (Rem.s (Rem.s Rem.z)))) | apply Rems.s (Rem.s (Rem.s (Rem.s (Rem.s (Rem.s Rem.z))))) | apply Rems.s (Rem.s (Rem.s (Rem.s (Rem.s (Rem.s (Rem.s Rem.z)))))) | apply Rems.s (Rem.s (Rem.s (Rem.s (Rem.s (Rem.s (Rem.s (Rem.s Rem.z))))))) | apply Rems.s (Rem.s (Rem.s (Rem.s (Rem.s (Rem.s (Rem.s (Rem.s (Rem.s Rem.z)))))))) | apply Rems.s (Rem.s (Rem.s (Rem.s (Rem.s (Rem.s (Rem.s (Rem.s (Rem.s (Rem.s Rem.z)))))))))))) | (exact K_again3 (pre := (fun (k : Nat) (p q : RowP) => k ≤ m ∧ (filterI k (isEarly (arrF n rs c g) fs hi)).length + p.junk.length = p.cap ∧ (filterI k (isLate (arrF n rs c g) fs lo)).length + q.junk.length = q.cap)) (Ei := (fun k p q => [(0, .pointer (some ⟨b, 0, none⟩)), (1, .float .f32 c), (2, .float .f32 g), (3, .pointer (some ⟨b2, 0, none⟩)), (4, .float .f32 lo), (5, .float .f32 hi), (14, .slice (some ⟨p.b, 0, none⟩) (filterI k (isEarly (arrF n rs c g) fs hi)).length p.cap), (15, .slice (some ⟨q.b, 0, none⟩) (filterI k (isLate (arrF n rs c g) fs lo)).length q.cap), (16, .int .i64 (k : Int))])) (Hi := (fun k p q => [(p.b, .cells (il (filterI k (isEarly (arrF n rs c g) fs hi)) ++ p.junk).toArray p.u (0, 0)), (q.b, .cells (il (filterI k (isLate (arrF n rs c g) fs lo)) ++ q.junk).toArray q.u (0, 0))])) (μ := (fun k _ _ => m - k)) (k + 1) p q (by refine ⟨?_, ?_, ?_⟩ <;> (try simp only) <;> omega) (by omega) (by repeat (first | exact trivial | refine ⟨rfl, ?_⟩)) (by repeat (first | exact .z | apply Rems.s Rem.z | apply Rems.s (Rem.s Rem.z) | apply Rems.s (Rem.s (Rem.s Rem.z)) | apply Rems.s (Rem.s (Rem.s (Rem.s Rem.z))) | apply Rems.s (Rem.s (Rem.s (Rem.s (Rem.s Rem.z)))) | apply Rems.s (Rem.s (Rem.s (Rem.s (Rem.s (Rem.s Rem.z))))) | apply Rems.s (Rem.s (Rem.s (Rem.s (Rem.s (Rem.s (Rem.s Rem.z)))))) | apply Rems.s (Rem.s (Rem.s (Rem.s (Rem.s (Rem.s (Rem.s (Rem.s Rem.z))))))) | apply Rems.s (Rem.s (Rem.s (Rem.s (Rem.s (Rem.s (Rem.s (Rem.s (Rem.s Rem.z)))))))) | apply Rems.s (Rem.s (Rem.s (Rem.s (Rem.s (Rem.s (Rem.s (Rem.s (Rem.s (Rem.s Rem.z))))))))))))
      · first
        | (exfalso; omega)
        |
          refine R_nil ?_
          refine K_tn ?_
          refine K_cond_f rfl ?_
          refine K_skip ?_
          refine K_tn ?_
          refine K_seq ?_
          refine R_region ?_
          refine r_move rfl rfl rfl ?_
          refine r_move rfl rfl rfl ?_
          refine s_fcmp rfl rfl rfl rfl (fun _ _ => run_flt) (fun h48 => ?_) (fun h48 => ?_)
          · first
            | (exfalso; omega)
            |
              refine R_nil ?_
              refine K_tn ?_
              refine K_cond_t rfl ?_
              refine R_region ?_
              refine r_move rfl rfl rfl ?_
              refine r_move rfl rfl rfl ?_
              refine r_buildSlice sl_60 sz_2 zr_2 rfl rfl rfl rfl rfl (by first | rfl) (fun b51 => ?_)
              refine r_appendI sl_60 sl_60 sz_2 zr_2 rfl by_2 rfl rfl rfl rfl rfl (by first | exact .h .z | exact .h (.s .z) | exact .h (.s (.s .z)) | exact .h (.s (.s (.s .z))) | exact .h (.s (.s (.s (.s .z)))) | exact .h (.s (.s (.s (.s (.s .z))))) | exact .h (.s (.s (.s (.s (.s (.s .z)))))) | exact .h (.s (.s (.s (.s (.s (.s (.s .z))))))) | exact .h (.s (.s (.s (.s (.s (.s (.s (.s .z)))))))) | exact .x .z | exact .x (.s .z) | exact .x (.s (.s .z)) | exact .x (.s (.s (.s .z))) | exact .x (.s (.s (.s (.s .z)))) | exact .x (.s (.s (.s (.s (.s .z))))) | exact .x (.s (.s (.s (.s (.s (.s .z))))))) (by first | exact .z | exact (.s .z) | exact (.s (.s .z)) | exact (.s (.s (.s .z))) | exact (.s (.s (.s (.s .z)))) | exact (.s (.s (.s (.s (.s .z))))) | exact (.s (.s (.s (.s (.s (.s .z)))))) | exact (.s (.s (.s (.s (.s (.s (.s .z))))))) | exact (.s (.s (.s (.s (.s (.s (.s (.s .z)))))))) | exact (.s (.s (.s (.s (.s (.s (.s (.s (.s .z)))))))))) (by omega) (by omega) (by omega) (fun b52 cap52 junk52 u52 hj52 => ?_)
              refine r_assign rfl rfl rfl ?_
              refine R_nil ?_
              refine K_bn ?_
              refine K_tn ?_
              refine R_region ?_
              refine r_move rfl rfl rfl ?_
              first | refine r_addN rfl rfl rfl rfl (i64K (by omega) (by omega)) ?_ | refine r_add rfl rfl rfl rfl (i64K (by omega) (by omega)) ?_
              refine r_assign rfl rfl rfl ?_
              refine R_nil ?_
              refine K_tn ?_
              first | (have hE := filterI_t (P := (isEarly (arrF n rs c g) fs hi)) (k := k) h41; have hEl := filterI_tl (P := (isEarly (arrF n rs c g) fs hi)) (k := k) h41; rw [hE, hEl]) | (have hE := filterI_f (P := (isEarly (arrF n rs c g) fs hi)) (k := k) h41; have hEl := congrArg List.length hE; rw [hE])
              first | (have hL := filterI_t (P := (isLate (arrF n rs c g) fs lo)) (k := k) h48; have hLl := filterI_tl (P := (isLate (arrF n rs c g) fs lo)) (k := k) h48; rw [hL, hLl]) | (have hL := filterI_f (P := (isLate (arrF n rs c g) fs lo)) (k := k) h48; have hLl := congrArg List.length hL; rw [hL])
              first | (exact K_again3 (pre := (fun (k : Nat) (p q : RowP) => k ≤ m ∧ (filterI k (isEarly (arrF n rs c g) fs hi)).length + p.junk.length = p.cap ∧ (filterI k (isLate (arrF n rs c g) fs lo)).length + q.junk.length = q.cap)) (Ei := (fun k p q => [(0, .pointer (some ⟨b, 0, none⟩)), (1, .float .f32 c), (2, .float .f32 g), (3, .pointer (some ⟨b2, 0, none⟩)), (4, .float .f32 lo), (5, .float .f32 hi), (14, .slice (some ⟨p.b, 0, none⟩) (filterI k (isEarly (arrF n rs c g) fs hi)).length p.cap), (15, .slice (some ⟨q.b, 0, none⟩) (filterI k (isLate (arrF n rs c g) fs lo)).length q.cap), (16, .int .i64 (k : Int))])) (Hi := (fun k p q => [(p.b, .cells (il (filterI k (isEarly (arrF n rs c g) fs hi)) ++ p.junk).toArray p.u (0, 0)), (q.b, .cells (il (filterI k (isLate (arrF n rs c g) fs lo)) ++ q.junk).toArray q.u (0, 0))])) (μ := (fun k _ _ => m - k)) (k + 1) (RowP.mk b45 cap45 junk45 u45) (RowP.mk b52 cap52 junk52 u52) (by refine ⟨?_, ?_, ?_⟩ <;> (try simp only) <;> omega) (by omega) (by repeat (first | exact trivial | refine ⟨rfl, ?_⟩)) (by repeat (first | exact .z | apply Rems.s Rem.z | apply Rems.s (Rem.s Rem.z) | apply Rems.s (Rem.s (Rem.s Rem.z)) | apply Rems.s (Rem.s (Rem.s (Rem.s Rem.z))) | apply Rems.s (Rem.s (Rem.s (Rem.s (Rem.s Rem.z)))) | apply Rems.s (Rem.s (Rem.s (Rem.s (Rem.s (Rem.s Rem.z))))) | apply Rems.s (Rem.s (Rem.s (Rem.s (Rem.s (Rem.s (Rem.s Rem.z)))))) | apply Rems.s (Rem.s (Rem.s (Rem.s (Rem.s (Rem.s (Rem.s (Rem.s Rem.z))))))) | apply Rems.s (Rem.s (Rem.s (Rem.s (Rem.s (Rem.s (Rem.s (Rem.s (Rem.s Rem.z)))))))) | apply Rems.s (Rem.s (Rem.s (Rem.s (Rem.s (Rem.s (Rem.s (Rem.s (Rem.s (Rem.s Rem.z)))))))))))) | (exact K_again3 (pre := (fun (k : Nat) (p q : RowP) => k ≤ m ∧ (filterI k (isEarly (arrF n rs c g) fs hi)).length + p.junk.length = p.cap ∧ (filterI k (isLate (arrF n rs c g) fs lo)).length + q.junk.length = q.cap)) (Ei := (fun k p q => [(0, .pointer (some ⟨b, 0, none⟩)), (1, .float .f32 c), (2, .float .f32 g), (3, .pointer (some ⟨b2, 0, none⟩)), (4, .float .f32 lo), (5, .float .f32 hi), (14, .slice (some ⟨p.b, 0, none⟩) (filterI k (isEarly (arrF n rs c g) fs hi)).length p.cap), (15, .slice (some ⟨q.b, 0, none⟩) (filterI k (isLate (arrF n rs c g) fs lo)).length q.cap), (16, .int .i64 (k : Int))])) (Hi := (fun k p q => [(p.b, .cells (il (filterI k (isEarly (arrF n rs c g) fs hi)) ++ p.junk).toArray p.u (0, 0)), (q.b, .cells (il (filterI k (isLate (arrF n rs c g) fs lo)) ++ q.junk).toArray q.u (0, 0))])) (μ := (fun k _ _ => m - k)) (k + 1) (RowP.mk b45 cap45 junk45 u45) q (by refine ⟨?_, ?_, ?_⟩ <;> (try simp only) <;> omega) (by omega) (by repeat (first | exact trivial | refine ⟨rfl, ?_⟩)) (by repeat (first | exact .z | apply Rems.s Rem.z | apply Rems.s (Rem.s Rem.z) | apply Rems.s (Rem.s (Rem.s Rem.z)) | apply Rems.s (Rem.s (Rem.s (Rem.s Rem.z))) | apply Rems.s (Rem.s (Rem.s (Rem.s (Rem.s Rem.z)))) | apply Rems.s (Rem.s (Rem.s (Rem.s (Rem.s (Rem.s Rem.z))))) | apply Rems.s (Rem.s (Rem.s (Rem.s (Rem.s (Rem.s (Rem.s Rem.z)))))) | apply Rems.s (Rem.s (Rem.s (Rem.s (Rem.s (Rem.s (Rem.s (Rem.s Rem.z))))))) | apply Rems.s (Rem.s (Rem.s (Rem.s (Rem.s (Rem.s (Rem.s (Rem.s (Rem.s Rem.z)))))))) | apply Rems.s (Rem.s (Rem.s (Rem.s (Rem.s (Rem.s (Rem.s (Rem.s (Rem.s (Rem.s Rem.z)))))))))))) | (exact K_again3 (pre := (fun (k : Nat) (p q : RowP) => k ≤ m ∧ (filterI k (isEarly (arrF n rs c g) fs hi)).length + p.junk.length = p.cap ∧ (filterI k (isLate (arrF n rs c g) fs lo)).length + q.junk.length = q.cap)) (Ei := (fun k p q => [(0, .pointer (some ⟨b, 0, none⟩)), (1, .float .f32 c), (2, .float .f32 g), (3, .pointer (some ⟨b2, 0, none⟩)), (4, .float .f32 lo), (5, .float .f32 hi), (14, .slice (some ⟨p.b, 0, none⟩) (filterI k (isEarly (arrF n rs c g) fs hi)).length p.cap), (15, .slice (some ⟨q.b, 0, none⟩) (filterI k (isLate (arrF n rs c g) fs lo)).length q.cap), (16, .int .i64 (k : Int))])) (Hi := (fun k p q => [(p.b, .cells (il (filterI k (isEarly (arrF n rs c g) fs hi)) ++ p.junk).toArray p.u (0, 0)), (q.b, .cells (il (filterI k (isLate (arrF n rs c g) fs lo)) ++ q.junk).toArray q.u (0, 0))])) (μ := (fun k _ _ => m - k)) (k + 1) p (RowP.mk b52 cap52 junk52 u52) (by refine ⟨?_, ?_, ?_⟩ <;> (try simp only) <;> omega) (by omega) (by repeat (first | exact trivial | refine ⟨rfl, ?_⟩)) (by repeat (first | exact .z | apply Rems.s Rem.z | apply Rems.s (Rem.s Rem.z) | apply Rems.s (Rem.s (Rem.s Rem.z)) | apply Rems.s (Rem.s (Rem.s (Rem.s Rem.z))) | apply Rems.s (Rem.s (Rem.s (Rem.s (Rem.s Rem.z)))) | apply Rems.s (Rem.s (Rem.s (Rem.s (Rem.s (Rem.s Rem.z))))) | apply Rems.s (Rem.s (Rem.s (Rem.s (Rem.s (Rem.s (Rem.s Rem.z)))))) | apply Rems.s (Rem.s (Rem.s (Rem.s (Rem.s (Rem.s (Rem.s (Rem.s Rem.z))))))) | apply Rems.s (Rem.s (Rem.s (Rem.s (Rem.s (Rem.s (Rem.s (Rem.s (Rem.s Rem.z)))))))) | apply Rems.s (Rem.s (Rem.s (Rem.s (Rem.s (Rem.s (Rem.s (Rem.s (Rem.s (Rem.s Rem.z)))))))))))) | (exact K_again3 (pre := (fun (k : Nat) (p q : RowP) => k ≤ m ∧ (filterI k (isEarly (arrF n rs c g) fs hi)).length + p.junk.length = p.cap ∧ (filterI k (isLate (arrF n rs c g) fs lo)).length + q.junk.length = q.cap)) (Ei := (fun k p q => [(0, .pointer (some ⟨b, 0, none⟩)), (1, .float .f32 c), (2, .float .f32 g), (3, .pointer (some ⟨b2, 0, none⟩)), (4, .float .f32 lo), (5, .float .f32 hi), (14, .slice (some ⟨p.b, 0, none⟩) (filterI k (isEarly (arrF n rs c g) fs hi)).length p.cap), (15, .slice (some ⟨q.b, 0, none⟩) (filterI k (isLate (arrF n rs c g) fs lo)).length q.cap), (16, .int .i64 (k : Int))])) (Hi := (fun k p q => [(p.b, .cells (il (filterI k (isEarly (arrF n rs c g) fs hi)) ++ p.junk).toArray p.u (0, 0)), (q.b, .cells (il (filterI k (isLate (arrF n rs c g) fs lo)) ++ q.junk).toArray q.u (0, 0))])) (μ := (fun k _ _ => m - k)) (k + 1) p q (by refine ⟨?_, ?_, ?_⟩ <;> (try simp only) <;> omega) (by omega) (by repeat (first | exact trivial | refine ⟨rfl, ?_⟩)) (by repeat (first | exact .z | apply Rems.s Rem.z | apply Rems.s (Rem.s Rem.z) | apply Rems.s (Rem.s (Rem.s Rem.z)) | apply Rems.s (Rem.s (Rem.s (Rem.s Rem.z))) | apply Rems.s (Rem.s (Rem.s (Rem.s (Rem.s Rem.z)))) | apply Rems.s (Rem.s (Rem.s (Rem.s (Rem.s (Rem.s Rem.z))))) | apply Rems.s (Rem.s (Rem.s (Rem.s (Rem.s (Rem.s (Rem.s Rem.z)))))) | apply Rems.s (Rem.s (Rem.s (Rem.s (Rem.s (Rem.s (Rem.s (Rem.s Rem.z))))))) | apply Rems.s (Rem.s (Rem.s (Rem.s (Rem.s (Rem.s (Rem.s (Rem.s (Rem.s Rem.z)))))))) | apply Rems.s (Rem.s (Rem.s (Rem.s (Rem.s (Rem.s (Rem.s (Rem.s (Rem.s (Rem.s Rem.z))))))))))))
          · first
            | (exfalso; omega)
            |
              refine R_nil ?_
              refine K_tn ?_
              refine K_cond_f rfl ?_
              refine K_skip ?_
              refine K_bn ?_
              refine K_tn ?_
              refine R_region ?_
              refine r_move rfl rfl rfl ?_
              first | refine r_addN rfl rfl rfl rfl (i64K (by omega) (by omega)) ?_ | refine r_add rfl rfl rfl rfl (i64K (by omega) (by omega)) ?_
              refine r_assign rfl rfl rfl ?_
              refine R_nil ?_
              refine K_tn ?_
              first | (have hE := filterI_t (P := (isEarly (arrF n rs c g) fs hi)) (k := k) h41; have hEl := filterI_tl (P := (isEarly (arrF n rs c g) fs hi)) (k := k) h41; rw [hE, hEl]) | (have hE := filterI_f (P := (isEarly (arrF n rs c g) fs hi)) (k := k) h41; have hEl := congrArg List.length hE; rw [hE])
              first | (have hL := filterI_t (P := (isLate (arrF n rs c g) fs lo)) (k := k) h48; have hLl := filterI_tl (P := (isLate (arrF n rs c g) fs lo)) (k := k) h48; rw [hL, hLl]) | (have hL := filterI_f (P := (isLate (arrF n rs c g) fs lo)) (k := k) h48; have hLl := congrArg List.length hL; rw [hL])
              first | (exact K_again3 (pre := (fun (k : Nat) (p q : RowP) => k ≤ m ∧ (filterI k (isEarly (arrF n rs c g) fs hi)).length + p.junk.length = p.cap ∧ (filterI k (isLate (arrF n rs c g) fs lo)).length + q.junk.length = q.cap)) (Ei := (fun k p q => [(0, .pointer (some ⟨b, 0, none⟩)), (1, .float .f32 c), (2, .float .f32 g), (3, .pointer (some ⟨b2, 0, none⟩)), (4, .float .f32 lo), (5, .float .f32 hi), (14, .slice (some ⟨p.b, 0, none⟩) (filterI k (isEarly (arrF n rs c g) fs hi)).length p.cap), (15, .slice (some ⟨q.b, 0, none⟩) (filterI k (isLate (arrF n rs c g) fs lo)).length q.cap), (16, .int .i64 (k : Int))])) (Hi := (fun k p q => [(p.b, .cells (il (filterI k (isEarly (arrF n rs c g) fs hi)) ++ p.junk).toArray p.u (0, 0)), (q.b, .cells (il (filterI k (isLate (arrF n rs c g) fs lo)) ++ q.junk).toArray q.u (0, 0))])) (μ := (fun k _ _ => m - k)) (k + 1) (RowP.mk b45 cap45 junk45 u45) (RowP.mk b52 cap52 junk52 u52) (by refine ⟨?_, ?_, ?_⟩ <;> (try simp only) <;> omega) (by omega) (by repeat (first | exact trivial | refine ⟨rfl, ?_⟩)) (by repeat (first | exact .z | apply Rems.s Rem.z | apply Rems.s (Rem.s Rem.z) | apply Rems.s (Rem.s (Rem.s Rem.z)) | apply Rems.s (Rem.s (Rem.s (Rem.s Rem.z))) | apply Rems.s (Rem.s (Rem.s (Rem.s (Rem.s Rem.z)))) | apply Rems.s (Rem.s (Rem.s (Rem.s (Rem.s (Rem.s Rem.z))))) | apply Rems.s (Rem.s (Rem.s (Rem.s (Rem.s (Rem.s (Rem.s Rem.z)))))) | apply Rems.s (Rem.s (Rem.s (Rem.s (Rem.s (Rem.s (Rem.s (Rem.s Rem.z))))))) | apply Rems.s (Rem.s (Rem.s (Rem.s (Rem.s (Rem.s (Rem.s (Rem.s (Rem.s Rem.z)))))))) | apply Rems.s (Rem.s (Rem.s (Rem.s (Rem.s (Rem.s (Rem.s (Rem.s (Rem.s (Rem.s Rem.z)))))))))))) | (exact K_again3 (pre := (fun (k : Nat) (p q : RowP) => k ≤ m ∧ (filterI k (isEarly (arrF n rs c g) fs hi)).length + p.junk.length = p.cap ∧ (filterI k (isLate (arrF n rs c g) fs lo)).length + q.junk.length = q.cap)) (Ei := (fun k p q => [(0, .pointer (some ⟨b, 0, none⟩)), (1, .float .f32 c), (2, .float .f32 g), (3, .pointer (some ⟨b2, 0, none⟩)), (4, .float .f32 lo), (5, .float .f32 hi), (14, .slice (some ⟨p.b, 0, none⟩) (filterI k (isEarly (arrF n rs c g) fs hi)).length p.cap), (15, .slice (some ⟨q.b, 0, none⟩) (filterI k (isLate (arrF n rs c g) fs lo)).length q.cap), (16, .int .i64 (k : Int))])) (Hi := (fun k p q => [(p.b, .cells (il (filterI k (isEarly (arrF n rs c g) fs hi)) ++ p.junk).toArray p.u (0, 0)), (q.b, .cells (il (filterI k (isLate (arrF n rs c g) fs lo)) ++ q.junk).toArray q.u (0, 0))])) (μ := (fun k _ _ => m - k)) (k + 1) (RowP.mk b45 cap45 junk45 u45) q (by refine ⟨?_, ?_, ?_⟩ <;> (try simp only) <;> omega) (by omega) (by repeat (first | exact trivial | refine ⟨rfl, ?_⟩)) (by repeat (first | exact .z | apply Rems.s Rem.z | apply Rems.s (Rem.s Rem.z) | apply Rems.s (Rem.s (Rem.s Rem.z)) | apply Rems.s (Rem.s (Rem.s (Rem.s Rem.z))) | apply Rems.s (Rem.s (Rem.s (Rem.s (Rem.s Rem.z)))) | apply Rems.s (Rem.s (Rem.s (Rem.s (Rem.s (Rem.s Rem.z))))) | apply Rems.s (Rem.s (Rem.s (Rem.s (Rem.s (Rem.s (Rem.s Rem.z)))))) | apply Rems.s (Rem.s (Rem.s (Rem.s (Rem.s (Rem.s (Rem.s (Rem.s Rem.z))))))) | apply Rems.s (Rem.s (Rem.s (Rem.s (Rem.s (Rem.s (Rem.s (Rem.s (Rem.s Rem.z)))))))) | apply Rems.s (Rem.s (Rem.s (Rem.s (Rem.s (Rem.s (Rem.s (Rem.s (Rem.s (Rem.s Rem.z)))))))))))) | (exact K_again3 (pre := (fun (k : Nat) (p q : RowP) => k ≤ m ∧ (filterI k (isEarly (arrF n rs c g) fs hi)).length + p.junk.length = p.cap ∧ (filterI k (isLate (arrF n rs c g) fs lo)).length + q.junk.length = q.cap)) (Ei := (fun k p q => [(0, .pointer (some ⟨b, 0, none⟩)), (1, .float .f32 c), (2, .float .f32 g), (3, .pointer (some ⟨b2, 0, none⟩)), (4, .float .f32 lo), (5, .float .f32 hi), (14, .slice (some ⟨p.b, 0, none⟩) (filterI k (isEarly (arrF n rs c g) fs hi)).length p.cap), (15, .slice (some ⟨q.b, 0, none⟩) (filterI k (isLate (arrF n rs c g) fs lo)).length q.cap), (16, .int .i64 (k : Int))])) (Hi := (fun k p q => [(p.b, .cells (il (filterI k (isEarly (arrF n rs c g) fs hi)) ++ p.junk).toArray p.u (0, 0)), (q.b, .cells (il (filterI k (isLate (arrF n rs c g) fs lo)) ++ q.junk).toArray q.u (0, 0))])) (μ := (fun k _ _ => m - k)) (k + 1) p (RowP.mk b52 cap52 junk52 u52) (by refine ⟨?_, ?_, ?_⟩ <;> (try simp only) <;> omega) (by omega) (by repeat (first | exact trivial | refine ⟨rfl, ?_⟩)) (by repeat (first | exact .z | apply Rems.s Rem.z | apply Rems.s (Rem.s Rem.z) | apply Rems.s (Rem.s (Rem.s Rem.z)) | apply Rems.s (Rem.s (Rem.s (Rem.s Rem.z))) | apply Rems.s (Rem.s (Rem.s (Rem.s (Rem.s Rem.z)))) | apply Rems.s (Rem.s (Rem.s (Rem.s (Rem.s (Rem.s Rem.z))))) | apply Rems.s (Rem.s (Rem.s (Rem.s (Rem.s (Rem.s (Rem.s Rem.z)))))) | apply Rems.s (Rem.s (Rem.s (Rem.s (Rem.s (Rem.s (Rem.s (Rem.s Rem.z))))))) | apply Rems.s (Rem.s (Rem.s (Rem.s (Rem.s (Rem.s (Rem.s (Rem.s (Rem.s Rem.z)))))))) | apply Rems.s (Rem.s (Rem.s (Rem.s (Rem.s (Rem.s (Rem.s (Rem.s (Rem.s (Rem.s Rem.z)))))))))))) | (exact K_again3 (pre := (fun (k : Nat) (p q : RowP) => k ≤ m ∧ (filterI k (isEarly (arrF n rs c g) fs hi)).length + p.junk.length = p.cap ∧ (filterI k (isLate (arrF n rs c g) fs lo)).length + q.junk.length = q.cap)) (Ei := (fun k p q => [(0, .pointer (some ⟨b, 0, none⟩)), (1, .float .f32 c), (2, .float .f32 g), (3, .pointer (some ⟨b2, 0, none⟩)), (4, .float .f32 lo), (5, .float .f32 hi), (14, .slice (some ⟨p.b, 0, none⟩) (filterI k (isEarly (arrF n rs c g) fs hi)).length p.cap), (15, .slice (some ⟨q.b, 0, none⟩) (filterI k (isLate (arrF n rs c g) fs lo)).length q.cap), (16, .int .i64 (k : Int))])) (Hi := (fun k p q => [(p.b, .cells (il (filterI k (isEarly (arrF n rs c g) fs hi)) ++ p.junk).toArray p.u (0, 0)), (q.b, .cells (il (filterI k (isLate (arrF n rs c g) fs lo)) ++ q.junk).toArray q.u (0, 0))])) (μ := (fun k _ _ => m - k)) (k + 1) p q (by refine ⟨?_, ?_, ?_⟩ <;> (try simp only) <;> omega) (by omega) (by repeat (first | exact trivial | refine ⟨rfl, ?_⟩)) (by repeat (first | exact .z | apply Rems.s Rem.z | apply Rems.s (Rem.s Rem.z) | apply Rems.s (Rem.s (Rem.s Rem.z)) | apply Rems.s (Rem.s (Rem.s (Rem.s Rem.z))) | apply Rems.s (Rem.s (Rem.s (Rem.s (Rem.s Rem.z)))) | apply Rems.s (Rem.s (Rem.s (Rem.s (Rem.s (Rem.s Rem.z))))) | apply Rems.s (Rem.s (Rem.s (Rem.s (Rem.s (Rem.s (Rem.s Rem.z)))))) | apply Rems.s (Rem.s (Rem.s (Rem.s (Rem.s (Rem.s (Rem.s (Rem.s Rem.z))))))) | apply Rems.s (Rem.s (Rem.s (Rem.s (Rem.s (Rem.s (Rem.s (Rem.s (Rem.s Rem.z)))))))) | apply Rems.s (Rem.s (Rem.s (Rem.s (Rem.s (Rem.s (Rem.s (Rem.s (Rem.s (Rem.s Rem.z))))))))))))
  · first
    | (exfalso; omega)
    |
      refine R_nil ?_
      refine K_tn ?_
      refine K_cond_f rfl ?_
      refine K_exit ?_
      refine K_te ?_
      refine K_te ?_
      refine K_be ?_
      refine K_tn ?_
      refine K_seq ?_
      refine R_region ?_
      have hkn : k = m := by omega
      subst hkn
      refine r_move rfl rfl rfl ?_
      refine r_move rfl rfl rfl ?_
      refine r_assign rfl rfl rfl ?_
      refine r_assign rfl rfl rfl ?_
      refine R_nil ?_
      refine K_tn ?_
      refine K_ret ?_
      refine K_done (H' := [(p.b, .cells (il (filterI k (isEarly (arrF n rs c g) fs hi)) ++ p.junk).toArray p.u (0, 0)), (q.b, .cells (il (filterI k (isLate (arrF n rs c g) fs lo)) ++ q.junk).toArray q.u (0, 0))]) rfl rfl (.s (.tmp rfl) (.s (.tmp rfl) .z)) (by repeat (first | exact .z | apply Rems.s Rem.z | apply Rems.s (Rem.s Rem.z) | apply Rems.s (Rem.s (Rem.s Rem.z)) | apply Rems.s (Rem.s (Rem.s (Rem.s Rem.z))) | apply Rems.s (Rem.s (Rem.s (Rem.s (Rem.s Rem.z)))) | apply Rems.s (Rem.s (Rem.s (Rem.s (Rem.s (Rem.s Rem.z))))) | apply Rems.s (Rem.s (Rem.s (Rem.s (Rem.s (Rem.s (Rem.s Rem.z)))))) | apply Rems.s (Rem.s (Rem.s (Rem.s (Rem.s (Rem.s (Rem.s (Rem.s Rem.z))))))) | apply Rems.s (Rem.s (Rem.s (Rem.s (Rem.s (Rem.s (Rem.s (Rem.s (Rem.s Rem.z)))))))) | apply Rems.s (Rem.s (Rem.s (Rem.s (Rem.s (Rem.s (Rem.s (Rem.s (Rem.s (Rem.s Rem.z))))))))))) ?_
      exact ⟨p, q, rfl, hq1, hq2, rfl⟩

set_option maxRecDepth 20000 in
theorem earlyAndLate (m : Nat) (es : List Nat) (he : es.length = 16) (hm : m ≤ 16) (lo hi : Nat) (hnb : ∀ i, i < m → flt hi (es.getD i 0) = true → flt (es.getD i 0) lo = false) : Go.Sl.Spec Try.prog 86 [.agg (.int .i8 (m : Int) :: fl .f32 es).toArray, .float .f32 lo, .float .f32 hi] [] [] (RowII (filterI m (fun i => flt hi (es.getD i 0))) (filterI m (fun i => flt (es.getD i 0) lo))) := by
  refine spec_of Try.func86 rfl Try.ntmps86 rfl (fun w0 => ?_)
  refine K_seq ?_
  refine R_region ?_
  refine r_box rfl rfl rfl rfl (fun b3 => ?_)
  refine r_assign rfl rfl rfl ?_
  refine r_assign rfl rfl rfl ?_
  refine R_nil ?_
  refine K_tn ?_
  refine K_seq ?_
  refine R_region ?_
  refine r_buildSlice sl_60 sz_2 zr_2 rfl rfl rfl rfl rfl (by first | rfl) (fun b12 => ?_)
  refine r_buildSlice sl_60 sz_2 zr_2 rfl rfl rfl rfl rfl (by first | rfl) (fun b13 => ?_)
  refine r_assign rfl rfl rfl ?_
  refine r_assign rfl rfl rfl ?_
  refine R_nil ?_
  refine K_tn ?_
  refine K_seq ?_
  refine K_seq ?_
  refine R_region ?_
  refine r_callV cb_100 rfl rfl rfl rfl rfl (fruits _ _ _ (by omega) _ _) (by repeat (first | exact .z | refine .s (.h .z) ?_ | refine .s (.h (.s .z)) ?_ | refine .s (.h (.s (.s .z))) ?_ | refine .s (.h (.s (.s (.s .z)))) ?_ | refine .s (.h (.s (.s (.s (.s .z))))) ?_ | refine .s (.h (.s (.s (.s (.s (.s .z)))))) ?_ | refine .s (.h (.s (.s (.s (.s (.s (.s .z))))))) ?_ | refine .s (.h (.s (.s (.s (.s (.s (.s (.s .z)))))))) ?_ | refine .s (.h (.s (.s (.s (.s (.s (.s (.s (.s .z))))))))) ?_ | refine .s (.x .z) ?_ | refine .s (.x (.s .z)) ?_ | refine .s (.x (.s (.s .z))) ?_ | refine .s (.x (.s (.s (.s .z)))) ?_ | refine .s (.x (.s (.s (.s (.s .z))))) ?_ | refine .s (.x (.s (.s (.s (.s (.s .z)))))) ?_ | refine .s (.x (.s (.s (.s (.s (.s (.s .z))))))) ?_)) ?_
  refine r_lenS sl_47 rfl rfl rfl ?_
  refine r_move rfl rfl rfl ?_
  refine R_nil ?_
  refine K_tn ?_
  refine K_block ?_
  refine K_loop3 (fun (k : Nat) (p q : RowP) => k ≤ m ∧ (filterI k (fun i => flt hi (es.getD i 0))).length + p.junk.length = p.cap ∧ (filterI k (fun i => flt (es.getD i 0) lo)).length + q.junk.length = q.cap) (fun k p q => [(1, .float .f32 lo), (2, .float .f32 hi), (8, .slice (some ⟨p.b, 0, none⟩) (filterI k (fun i => flt hi (es.getD i 0))).length p.cap), (9, .slice (some ⟨q.b, 0, none⟩) (filterI k (fun i => flt (es.getD i 0) lo)).length q.cap), (14, .slice (some ⟨b3, 0 + 1, none⟩) m 16), (15, .int .i64 (m : Int)), (16, .int .i64 (k : Int))]) (fun k p q => [(p.b, .cells (il (filterI k (fun i => flt hi (es.getD i 0))) ++ p.junk).toArray p.u (0, 0)), (q.b, .cells (il (filterI k (fun i => flt (es.getD i 0) lo)) ++ q.junk).toArray q.u (0, 0)), (b3, .cells (.int .i8 (m : Int) :: fl .f32 es).toArray 54 (0, 0))]) (fun k _ _ => m - k) 0 ⟨b12, 0, [], 2⟩ ⟨b13, 0, [], 2⟩ (by exact ⟨Nat.zero_le _, rfl, rfl⟩) (by repeat (first | exact trivial | refine ⟨rfl, ?_⟩)) (by repeat (first | exact .z | apply Rems.s Rem.z | apply Rems.s (Rem.s Rem.z) | apply Rems.s (Rem.s (Rem.s Rem.z)) | apply Rems.s (Rem.s (Rem.s (Rem.s Rem.z))) | apply Rems.s (Rem.s (Rem.s (Rem.s (Rem.s Rem.z)))) | apply Rems.s (Rem.s (Rem.s (Rem.s (Rem.s (Rem.s Rem.z))))) | apply Rems.s (Rem.s (Rem.s (Rem.s (Rem.s (Rem.s (Rem.s Rem.z)))))) | apply Rems.s (Rem.s (Rem.s (Rem.s (Rem.s (Rem.s (Rem.s (Rem.s Rem.z))))))) | apply Rems.s (Rem.s (Rem.s (Rem.s (Rem.s (Rem.s (Rem.s (Rem.s (Rem.s Rem.z)))))))) | apply Rems.s (Rem.s (Rem.s (Rem.s (Rem.s (Rem.s (Rem.s (Rem.s (Rem.s (Rem.s Rem.z))))))))))) (fun k p q hq0 => ?_)
  obtain ⟨hk, hq1, hq2⟩ := hq0
  refine K_seq ?_
  refine R_region ?_
  refine s_lss rfl rfl rfl rfl (fun h17 => ?_) (fun h17 => ?_)
  · first
    | (exfalso; omega)
    |
      refine R_nil ?_
      refine K_tn ?_
      refine K_seq ?_
      refine K_cond_t rfl ?_
      refine K_skip ?_
      refine K_tn ?_
      refine K_seq ?_
      refine K_block ?_
      refine K_seq ?_
      refine R_region ?_
      have hle1 := filterI_le k (fun i => flt hi (es.getD i 0))
      have hle2 := filterI_le k (fun i => flt (es.getD i 0) lo)
      refine r_move rfl rfl rfl ?_
      refine r_indexS sl_47 sz_23 rfl rfl rfl rfl (by omega) ?_
      refine r_load ag_23 rfl rfl rfl (by first | exact .h .z | exact .h (.s .z) | exact .h (.s (.s .z)) | exact .h (.s (.s (.s .z))) | exact .h (.s (.s (.s (.s .z)))) | exact .h (.s (.s (.s (.s (.s .z))))) | exact .h (.s (.s (.s (.s (.s (.s .z)))))) | exact .h (.s (.s (.s (.s (.s (.s (.s .z))))))) | exact .h (.s (.s (.s (.s (.s (.s (.s (.s .z)))))))) | exact .x .z | exact .x (.s .z) | exact .x (.s (.s .z)) | exact .x (.s (.s (.s .z))) | exact .x (.s (.s (.s (.s .z)))) | exact .x (.s (.s (.s (.s (.s .z))))) | exact .x (.s (.s (.s (.s (.s (.s .z))))))) (by first | rfl | exact gC (by omega) | exact takeC (by omega) | exact takeC0 (by omega)) ?_
      refine r_assign rfl rfl rfl ?_
      refine r_assign rfl rfl rfl ?_
      refine R_nil ?_
      refine K_tn ?_
      refine K_block ?_
      refine K_seq ?_
      refine R_region ?_
      refine r_move rfl rfl rfl ?_
      refine r_move rfl rfl rfl ?_
      refine s_fcmp rfl rfl rfl rfl (fun _ _ => run_fgt) (fun h24 => ?_) (fun h24 => ?_)
      · first
        | (exfalso; omega)
        |
          refine r_assign rfl rfl rfl ?_
          refine R_nil ?_
          refine K_tn ?_
          refine K_cond_t rfl ?_
          refine R_region ?_
          refine r_move rfl rfl rfl ?_
          refine r_move rfl rfl rfl ?_
          refine r_buildSlice sl_60 sz_2 zr_2 rfl rfl rfl rfl rfl (by first | rfl) (fun b27 => ?_)
          refine r_appendI sl_60 sl_60 sz_2 zr_2 rfl by_2 rfl rfl rfl rfl rfl (by first | exact .h .z | exact .h (.s .z) | exact .h (.s (.s .z)) | exact .h (.s (.s (.s .z))) | exact .h (.s (.s (.s (.s .z)))) | exact .h (.s (.s (.s (.s (.s .z))))) | exact .h (.s (.s (.s (.s (.s (.s .z)))))) | exact .h (.s (.s (.s (.s (.s (.s (.s .z))))))) | exact .h (.s (.s (.s (.s (.s (.s (.s (.s .z)))))))) | exact .x .z | exact .x (.s .z) | exact .x (.s (.s .z)) | exact .x (.s (.s (.s .z))) | exact .x (.s (.s (.s (.s .z)))) | exact .x (.s (.s (.s (.s (.s .z))))) | exact .x (.s (.s (.s (.s (.s (.s .z))))))) (by first | exact .z | exact (.s .z) | exact (.s (.s .z)) | exact (.s (.s (.s .z))) | exact (.s (.s (.s (.s .z)))) | exact (.s (.s (.s (.s (.s .z))))) | exact (.s (.s (.s (.s (.s (.s .z)))))) | exact (.s (.s (.s (.s (.s (.s (.s .z))))))) | exact (.s (.s (.s (.s (.s (.s (.s (.s .z)))))))) | exact (.s (.s (.s (.s (.s (.s (.s (.s (.s .z)))))))))) (by omega) (by omega) (by omega) (fun b28 cap28 junk28 u28 hj28 => ?_)
          refine r_assign rfl rfl rfl ?_
          refine R_nil ?_
          refine K_bn ?_
          refine K_bn ?_
          refine K_tn ?_
          refine R_region ?_
          first | refine r_addN rfl rfl rfl rfl (i64K (by omega) (by omega)) ?_ | refine r_add rfl rfl rfl rfl (i64K (by omega) (by omega)) ?_
          refine r_move rfl rfl rfl ?_
          refine R_nil ?_
          refine K_tn ?_
          first | (have hE := filterI_t (P := (fun i => flt hi (es.getD i 0))) (k := k) h24; have hEl := filterI_tl (P := (fun i => flt hi (es.getD i 0))) (k := k) h24; rw [hE, hEl]) | (have hE := filterI_f (P := (fun i => flt hi (es.getD i 0))) (k := k) h24; have hEl := congrArg List.length hE; rw [hE])
          first | (have hL := filterI_t (P := (fun i => flt (es.getD i 0) lo)) (k := k) h32; have hLl := filterI_tl (P := (fun i => flt (es.getD i 0) lo)) (k := k) h32; rw [hL, hLl]) | (have hL := filterI_f (P := (fun i => flt (es.getD i 0) lo)) (k := k) h32; have hLl := congrArg List.length hL; rw [hL]) | (have hL := filterI_f (P := (fun i => flt (es.getD i 0) lo)) (k := k) (hnb k (by omega) h24); have hLl := congrArg List.length hL; rw [hL])
          first | (exact K_again3 (pre := (fun (k : Nat) (p q : RowP) => k ≤ m ∧ (filterI k (fun i => flt hi (es.getD i 0))).length + p.junk.length = p.cap ∧ (filterI k (fun i => flt (es.getD i 0) lo)).length + q.junk.length = q.cap)) (Ei := (fun k p q => [(1, .float .f32 lo), (2, .float .f32 hi), (8, .slice (some ⟨p.b, 0, none⟩) (filterI k (fun i => flt hi (es.getD i 0))).length p.cap), (9, .slice (some ⟨q.b, 0, none⟩) (filterI k (fun i => flt (es.getD i 0) lo)).length q.cap), (14, .slice (some ⟨b3, 0 + 1, none⟩) m 16), (15, .int .i64 (m : Int)), (16, .int .i64 (k : Int))])) (Hi := (fun k p q => [(p.b, .cells (il (filterI k (fun i => flt hi (es.getD i 0))) ++ p.junk).toArray p.u (0, 0)), (q.b, .cells (il (filterI k (fun i => flt (es.getD i 0) lo)) ++ q.junk).toArray q.u (0, 0)), (b3, .cells (.int .i8 (m : Int) :: fl .f32 es).toArray 54 (0, 0))])) (μ := (fun k _ _ => m - k)) (k + 1) (RowP.mk b28 cap28 junk28 u28) (RowP.mk b36 cap36 junk36 u36) (by refine ⟨?_, ?_, ?_⟩ <;> (try simp only) <;> omega) (by omega) (by repeat (first | exact trivial | refine ⟨rfl, ?_⟩)) (by repeat (first | exact .z | apply Rems.s Rem.z | apply Rems.s (Rem.s Rem.z) | apply Rems.s (Rem.s (Rem.s Rem.z)) | apply Rems.s (Rem.s (Rem.s (Rem.s Rem.z))) | apply Rems.s (Rem.s (Rem.s (Rem.s (Rem.s Rem.z)))) | apply Rems.s (Rem.s (Rem.s (Rem.s (Rem.s (Rem.s Rem.z))))) | apply Rems.s (Rem.s (Rem.s (Rem.s (Rem.s (Rem.s (Rem.s Rem.z)))))) | apply Rems.s (Rem.s (Rem.s (Rem.s (Rem.s (Rem.s (Rem.s (Rem.s Rem.z))))))) | apply Rems.s (Rem.s (Rem.s (Rem.s (Rem.s (Rem.s (Rem.s (Rem.s (Rem.s Rem.z)))))))) | apply Rems.s (Rem.s (Rem.s (Rem.s (Rem.s (Rem.s (Rem.s (Rem.s (Rem.s (Rem.s Rem.z)))))))))))) | (exact K_again3 (pre := (fun (k : Nat) (p q : RowP) => k ≤ m ∧ (filterI k (fun i => flt hi (es.getD i 0))).length + p.junk.length = p.cap ∧ (filterI k (fun i => flt (es.getD i 0) lo)).length + q.junk.length = q.cap)) (Ei := (fun k p q => [(1, .float .f32 lo), (2, .float .f32 hi), (8, .slice (some ⟨p.b, 0, none⟩) (filterI k (fun i => flt hi (es.getD i 0))).length p.cap), (9, .slice (some ⟨q.b, 0, none⟩) (filterI k (fun i => flt (es.getD i 0) lo)).length q.cap), (14, .slice (some ⟨b3, 0 + 1, none⟩) m 16), (15, .int .i64 (m : Int)), (16, .int .i64 (k : Int))])) (Hi := (fun k p q => [(p.b, .cells (il (filterI k (fun i => flt hi (es.getD i 0))) ++ p.junk).toArray p.u (0, 0)), (q.b, .cells (il (filterI k (fun i => flt (es.getD i 0) lo)) ++ q.junk).toArray q.u (0, 0)), (b3, .cells (.int .i8 (m : Int) :: fl .f32 es).toArray 54 (0, 0))])) (μ := (fun k _ _ => m - k)) (k + 1) (RowP.mk b28 cap28 junk28 u28) q (by refine ⟨?_, ?_, ?_⟩ <;> (try simp only) <;> omega) (by omega) (by repeat (first | exact trivial | refine ⟨rfl, ?_⟩)) (by repeat (first | exact .z | apply Rems.s Rem.z | apply Rems.s (Rem.s Rem.z) | apply Rems.s (Rem.s (Rem.s Rem.z)) | apply Rems.s (Rem.s (Rem.s (Rem.s Rem.z))) | apply Rems.s (Rem.s (Rem.s (Rem.s (Rem.s Rem.z)))) | apply Rems.s (Rem.s (Rem.s (Rem.s (Rem.s (Rem.s Rem.z))))) | apply Rems.s (Rem.s (Rem.s (Rem.s (Rem.s (Rem.s (Rem.s Rem.z)))))) | apply Rems.s (Rem.s (Rem.s (Rem.s (Rem.s (Rem.s (Rem.s (Rem.s Rem.z))))))) | apply Rems.s (Rem.s (Rem.s (Rem.s (Rem.s (Rem.s (Rem.s (Rem.s (Rem.s Rem.z)))))))) | apply Rems.s (Rem.s (Rem.s (Rem.s (Rem.s (Rem.s (Rem.s (Rem.s (Rem.s (Rem.s Rem.z)))))))))))) | (exact K_again3 (pre := (fun (k : Nat) (p q : RowP) => k ≤ m ∧ (filterI k (fun i => flt hi (es.getD i 0))).length + p.junk.length = p.cap ∧ (filterI k (fun i => flt (es.getD i 0) lo)).length + q.junk.length = q.cap)) (Ei := (fun k p q => [(1, .float .f32 lo), (2, .float .f32 hi), (8, .slice (some ⟨p.b, 0, none⟩) (filterI k (fun i => flt hi (es.getD i 0))).length p.cap), (9, .slice (some ⟨q.b, 0, none⟩) (filterI k (fun i => flt (es.getD i 0) lo)).length q.cap), (14, .slice (some ⟨b3, 0 + 1, none⟩) m 16), (15, .int .i64 (m : Int)), (16, .int .i64 (k : Int))])) (Hi := (fun k p q => [(p.b, .cells (il (filterI k (fun i => flt hi (es.getD i 0))) ++ p.junk).toArray p.u (0, 0)), (q.b, .cells (il (filterI k (fun i => flt (es.getD i 0) lo)) ++ q.junk).toArray q.u (0, 0)), (b3, .cells (.int .i8 (m : Int) :: fl .f32 es).toArray 54 (0, 0))])) (μ := (fun k _ _ => m - k)) (k + 1) p (RowP.mk b36 cap36 junk36 u36) (by refine ⟨?_, ?_, ?_⟩ <;> (try simp only) <;> omega) (by omega) (by repeat (first | exact trivial | refine ⟨rfl, ?_⟩)) (by repeat (first | exact .z | apply Rems.s Rem.z | apply Rems.s (Rem.s Rem.z) | apply Rems.s (Rem.s (Rem.s Rem.z)) | apply Rems.s (Rem.s (Rem.s (Rem.s Rem.z))) | apply Rems.s (Rem.s (Rem.s (Rem.s (Rem.s Rem.z)))) | apply Rems.s (Rem.s (Rem.s (Rem.s (Rem.s (Rem.s Rem.z))))) | apply Rems.s (Rem.s (Rem.s (Rem.s (Rem.s (Rem.s (Rem.s Rem.z)))))) | apply Rems.s (Rem.s (Rem.s (Rem.s (Rem.s (Rem.s (Rem.s (Rem.s Rem.z))))))) | apply Rems.s (Rem.s (Rem.s (Rem.s (Rem.s (Rem.s (Rem.s (Rem.s (Rem.s Rem.z)))))))) | apply Rems.s (Rem.s (Rem.s (Rem.s (Rem.s (Rem.s (Rem.s (Rem.s (Rem.s (Rem.s Rem.z)))))))))))) | (exact K_again3 (pre := (fun (k : Nat) (p q : RowP) => k ≤ m ∧ (filterI k (fun i => flt hi (es.getD i 0))).length + p.junk.length = p.cap ∧ (filterI k (fun i => flt (es.getD i 0) lo)).length + q.junk.length = q.cap)) (Ei := (fun k p q => [(1, .float .f32 lo), (2, .float .f32 hi), (8, .slice (some ⟨p.b, 0, none⟩) (filterI k (fun i => flt hi (es.getD i 0))).length p.cap), (9, .slice (some ⟨q.b, 0, none⟩) (filterI k (fun i => flt (es.getD i 0) lo)).length q.cap), (14, .slice (some ⟨b3, 0 + 1, none⟩) m 16), (15, .int .i64 (m : Int)), (16, .int .i64 (k : Int))])) (Hi := (fun k p q => [(p.b, .cells (il (filterI k (fun i => flt hi (es.getD i 0))) ++ p.junk).toArray p.u (0, 0)), (q.b, .cells (il (filterI k (fun i => flt (es.getD i 0) lo)) ++ q.junk).toArray q.u (0, 0)), (b3, .cells (.int .i8 (m : Int) :: fl .f32 es).toArray 54 (0, 0))])) (μ := (fun k _ _ => m - k)) (k + 1) p q (by refine ⟨?_, ?_, ?_⟩ <;> (try simp only) <;> omega) (by omega) (by repeat (first | exact trivial | refine ⟨rfl, ?_⟩)) (by repeat (first | exact .z | apply Rems.s Rem.z | apply Rems.s (Rem.s Rem.z) | apply Rems.s (Rem.s (Rem.s Rem.z)) | apply Rems.s (Rem.s (Rem.s (Rem.s Rem.z))) | apply Rems.s (Rem.s (Rem.s (Rem.s (Rem.s Rem.z)))) | apply Rems.s (Rem.s (Rem.s (Rem.s (Rem.s (Rem.s Rem.z))))) | apply Rems.s (Rem.s (Rem.s (Rem.s (Rem.s (Rem.s (Rem.s Rem.z)))))) | apply Rems.s (Rem.s (Rem.s (Rem.s (Rem.s (Rem.s (Rem.s (Rem.s Rem.z))))))) | apply Rems.s (Rem.s (Rem.s (Rem.s (Rem.s (Rem.s (Rem.s (Rem.s (Rem.s Rem.z)))))))) | apply Rems.s (Rem.s (Rem.s (Rem.s (Rem.s (Rem.s (Rem.s (Rem.s (Rem.s (Rem.s Rem.z))))))))))))
      · first
        | (exfalso; omega)
        |
          refine r_assign rfl rfl rfl ?_
          refine R_nil ?_
          refine K_tn ?_
          refine K_cond_f rfl ?_
          refine K_seq ?_
          refine R_region ?_
          refine r_move rfl rfl rfl ?_
          refine r_move rfl rfl rfl ?_
          refine s_fcmp rfl rfl rfl rfl (fun _ _ => run_flt) (fun h32 => ?_) (fun h32 => ?_)
          · first
            | (exfalso; omega)
            |
              refine r_assign rfl rfl rfl ?_
              refine R_nil ?_
              refine K_tn ?_
              refine K_cond_t rfl ?_
              refine R_region ?_
              refine r_move rfl rfl rfl ?_
              refine r_move rfl rfl rfl ?_
              refine r_buildSlice sl_60 sz_2 zr_2 rfl rfl rfl rfl rfl (by first | rfl) (fun b35 => ?_)
              refine r_appendI sl_60 sl_60 sz_2 zr_2 rfl by_2 rfl rfl rfl rfl rfl (by first | exact .h .z | exact .h (.s .z) | exact .h (.s (.s .z)) | exact .h (.s (.s (.s .z))) | exact .h (.s (.s (.s (.s .z)))) | exact .h (.s (.s (.s (.s (.s .z))))) | exact .h (.s (.s (.s (.s (.s (.s .z)))))) | exact .h (.s (.s (.s (.s (.s (.s (.s .z))))))) | exact .h (.s (.s (.s (.s (.s (.s (.s (.s .z)))))))) | exact .x .z | exact .x (.s .z) | exact .x (.s (.s .z)) | exact .x (.s (.s (.s .z))) | exact .x (.s (.s (.s (.s .z)))) | exact .x (.s (.s (.s (.s (.s .z))))) | exact .x (.s (.s (.s (.s (.s (.s .z))))))) (by first | exact .z | exact (.s .z) | exact (.s (.s .z)) | exact (.s (.s (.s .z))) | exact (.s (.s (.s (.s .z)))) | exact (.s (.s (.s (.s (.s .z))))) | exact (.s (.s (.s (.s (.s (.s .z)))))) | exact (.s (.s (.s (.s (.s (.s (.s .z))))))) | exact (.s (.s (.s (.s (.s (.s (.s (.s .z)))))))) | exact (.s (.s (.s (.s (.s (.s (.s (.s (.s .z)))))))))) (by omega) (by omega) (by omega) (fun b36 cap36 junk36 u36 hj36 => ?_)
              refine r_assign rfl rfl rfl ?_
              refine R_nil ?_
              refine K_bn ?_
              refine K_bn ?_
              refine K_tn ?_
              refine R_region ?_
              first | refine r_addN rfl rfl rfl rfl (i64K (by omega) (by omega)) ?_ | refine r_add rfl rfl rfl rfl (i64K (by omega) (by omega)) ?_
              refine r_move rfl rfl rfl ?_
              refine R_nil ?_
              refine K_tn ?_
              first | (have hE := filterI_t (P := (fun i => flt hi (es.getD i 0))) (k := k) h24; have hEl := filterI_tl (P := (fun i => flt hi (es.getD i 0))) (k := k) h24; rw [hE, hEl]) | (have hE := filterI_f (P := (fun i => flt hi (es.getD i 0))) (k := k) h24; have hEl := congrArg List.length hE; rw [hE])
              first | (have hL := filterI_t (P := (fun i => flt (es.getD i 0) lo)) (k := k) h32; have hLl := filterI_tl (P := (fun i => flt (es.getD i 0) lo)) (k := k) h32; rw [hL, hLl]) | (have hL := filterI_f (P := (fun i => flt (es.getD i 0) lo)) (k := k) h32; have hLl := congrArg List.length hL; rw [hL]) | (have hL := filterI_f (P := (fun i => flt (es.getD i 0) lo)) (k := k) (hnb k (by omega) h24); have hLl := congrArg List.length hL; rw [hL])
              first | (exact K_again3 (pre := (fun (k : Nat) (p q : RowP) => k ≤ m ∧ (filterI k (fun i => flt hi (es.getD i 0))).length + p.junk.length = p.cap ∧ (filterI k (fun i => flt (es.getD i 0) lo)).length + q.junk.length = q.cap)) (Ei := (fun k p q => [(1, .float .f32 lo), (2, .float .f32 hi), (8, .slice (some ⟨p.b, 0, none⟩) (filterI k (fun i => flt hi (es.getD i 0))).length p.cap), (9, .slice (some ⟨q.b, 0, none⟩) (filterI k (fun i => flt (es.getD i 0) lo)).length q.cap), (14, .slice (some ⟨b3, 0 + 1, none⟩) m 16), (15, .int .i64 (m : Int)), (16, .int .i64 (k : Int))])) (Hi := (fun k p q => [(p.b, .cells (il (filterI k (fun i => flt hi (es.getD i 0))) ++ p.junk).toArray p.u (0, 0)), (q.b, .cells (il (filterI k (fun i => flt (es.getD i 0) lo)) ++ q.junk).toArray q.u (0, 0)), (b3, .cells (.int .i8 (m : Int) :: fl .f32 es).toArray 54 (0, 0))])) (μ := (fun k _ _ => m - k)) (k + 1) (RowP.mk b28 cap28 junk28 u28) (RowP.mk b36 cap36 junk36 u36) (by refine ⟨?_, ?_, ?_⟩ <;> (try simp only) <;> omega) (by omega) (by repeat (first | exact trivial | refine ⟨rfl, ?_⟩)) (by repeat (first | exact .z | apply Rems.s Rem.z | apply Rems.s (Rem.s Rem.z) | apply Rems.s (Rem.s (Rem.s Rem.z)) | apply Rems.s (Rem.s (Rem.s (Rem.s Rem.z))) | apply Rems.s (Rem.s (Rem.s (Rem.s (Rem.s Rem.z)))) | apply Rems.s (Rem.s (Rem.s (Rem.s (Rem.s (Rem.s Rem.z))))) | apply Rems.s (Rem.s (Rem.s (Rem.s (Rem.s (Rem.s (Rem.s Rem.z)))))) | apply Rems.s (Rem.s (Rem.s (Rem.s (Rem.s (Rem.s (Rem.s (Rem.s Rem.z))))))) | apply Rems.s (Rem.s (Rem.s (Rem.s (Rem.s (Rem.s (Rem.s (Rem.s (Rem.s Rem.z)))))))) | apply Rems.s (Rem.s (Rem.s (Rem.s (Rem.s (Rem.s (Rem.s (Rem.s (Rem.s (Rem.s Rem.z)))))))))))) | (exact K_again3 (pre := (fun (k : Nat) (p q : RowP) => k ≤ m ∧ (filterI k (fun i => flt hi (es.getD i 0))).length + p.junk.length = p.cap ∧ (filterI k (fun i => flt (es.getD i 0) lo)).length + q.junk.length = q.cap)) (Ei := (fun k p q => [(1, .float .f32 lo), (2, .float .f32 hi), (8, .slice (some ⟨p.b, 0, none⟩) (filterI k (fun i => flt hi (es.getD i 0))).length p.cap), (9, .slice (some ⟨q.b, 0, none⟩) (filterI k (fun i => flt (es.getD i 0) lo)).length q.cap), (14, .slice (some ⟨b3, 0 + 1, none⟩) m 16), (15, .int .i64 (m : Int)), (16, .int .i64 (k : Int))])) (Hi := (fun k p q => [(p.b, .cells (il (filterI k (fun i => flt hi (es.getD i 0))) ++ p.junk).toArray p.u (0, 0)), (q.b, .cells (il (filterI k (fun i => flt (es.getD i 0) lo)) ++ q.junk).toArray q.u (0, 0)), (b3, .cells (.int .i8 (m : Int) :: fl .f32 es).toArray 54 (0, 0))])) (μ := (fun k _ _ => m - k)) (k + 1) (RowP.mk b28 cap28 junk28 u28) q (by refine ⟨?_, ?_, ?_⟩ <;> (try simp only) <;> omega) (by omega) (by repeat (first | exact trivial | refine ⟨rfl, ?_⟩)) (by repeat (first | exact .z | apply Rems.s Rem.z | apply Rems.s (Rem.s Rem.z) | apply Rems.s (Rem.s (Rem.s Rem.z)) | apply Rems.s (Rem.s (Rem.s (Rem.s Rem.z))) | apply Rems.s (Rem.s (Rem.s (Rem.s (Rem.s Rem.z)))) | apply Rems.s (Rem.s (Rem.s (Rem.s (Rem.s (Rem.s Rem.z))))) | apply Rems.s (Rem.s (Rem.s (Rem.s (Rem.s (Rem.s (Rem.s Rem.z)))))) | apply Rems.s (Rem.s (Rem.s (Rem.s (Rem.s (Rem.s (Rem.s (Rem.s Rem.z))))))) | apply Rems.s (Rem.s (Rem.s (Rem.s (Rem.s (Rem.s (Rem.s (Rem.s (Rem.s Rem.z)))))))) | apply Rems.s (Rem.s (Rem.s (Rem.s (Rem.s (Rem.s (Rem.s (Rem.s (Rem.s (Rem.s Rem.z)))))))))))) | (exact K_again3 (pre := (fun (k : Nat) (p q : RowP) => k ≤ m ∧ (filterI k (fun i => flt hi (es.getD i 0))).length + p.junk.length = p.cap ∧ (filterI k (fun i => flt (es.getD i 0) lo)).length + q.junk.length = q.cap)) (Ei := (fun k p q => [(1, .float .f32 lo), (2, .float .f32 hi), (8, .slice (some ⟨p.b, 0, none⟩) (filterI k (fun i => flt hi (es.getD i 0))).length p.cap), (9, .slice (some ⟨q.b, 0, none⟩) (filterI k (fun i => flt (es.getD i 0) lo)).length q.cap), (14, .slice (some ⟨b3, 0 + 1, none⟩) m 16), (15, .int .i64 (m : Int)), (16, .int .i64 (k : Int))])) (Hi := (fun k p q => [(p.b, .cells (il (filterI k (fun i => flt hi (es.getD i 0))) ++ p.junk).toArray p.u (0, 0)), (q.b, .cells (il (filterI k (fun i => flt (es.getD i 0) lo)) ++ q.junk).toArray q.u (0, 0)), (b3, .cells (.int .i8 (m : Int) :: fl .f32 es).toArray 54 (0, 0))])) (μ := (fun k _ _ => m - k)) (k + 1) p (RowP.mk b36 cap36 junk36 u36) (by refine ⟨?_, ?_, ?_⟩ <;> (try simp only) <;> omega) (by omega) (by repeat (first | exact trivial | refine ⟨rfl, ?_⟩)) (by repeat (first | exact .z | apply Rems.s Rem.z | apply Rems.s (Rem.s Rem.z) | apply Rems.s (Rem.s (Rem.s Rem.z)) | apply Rems.s (Rem.s (Rem.s (Rem.s Rem.z))) | apply Rems.s (Rem.s (Rem.s (Rem.s (Rem.s Rem.z)))) | apply Rems.s (Rem.s (Rem.s (Rem.s (Rem.s (Rem.s Rem.z))))) | apply Rems.s (Rem.s (Rem.s (Rem.s (Rem.s (Rem.s (Rem.s Rem.z)))))) | apply Rems.s (Rem.s (Rem.s (Rem.s (Rem.s (Rem.s (Rem.s (Rem.s Rem.z))))))) | apply Rems.s (Rem.s (Rem.s (Rem.s (Rem.s (Rem.s (Rem.s (Rem.s (Rem.s Rem.z)))))))) | apply Rems.s (Rem.s (Rem.s (Rem.s (Rem.s (Rem.s (Rem.s (Rem.s (Rem.s (Rem.s Rem.z)))))))))))) | (exact K_again3 (pre := (fun (k : Nat) (p q : RowP) => k ≤ m ∧ (filterI k (fun i => flt hi (es.getD i 0))).length + p.junk.length = p.cap ∧ (filterI k (fun i => flt (es.getD i 0) lo)).length + q.junk.length = q.cap)) (Ei := (fun k p q => [(1, .float .f32 lo), (2, .float .f32 hi), (8, .slice (some ⟨p.b, 0, none⟩) (filterI k (fun i => flt hi (es.getD i 0))).length p.cap), (9, .slice (some ⟨q.b, 0, none⟩) (filterI k (fun i => flt (es.getD i 0) lo)).length q.cap), (14, .slice (some ⟨b3, 0 + 1, none⟩) m 16), (15, .int .i64 (m : Int)), (16, .int .i64 (k : Int))])) (Hi := (fun k p q => [(p.b, .cells (il (filterI k (fun i => flt hi (es.getD i 0))) ++ p.junk).toArray p.u (0, 0)), (q.b, .cells (il (filterI k (fun i => flt (es.getD i 0) lo)) ++ q.junk).toArray q.u (0, 0)), (b3, .cells (.int .i8 (m : Int) :: fl .f32 es).toArray 54 (0, 0))])) (μ := (fun k _ _ => m - k)) (k + 1) p q (by refine ⟨?_, ?_, ?_⟩ <;> (try simp only) <;> omega) (by omega) (by repeat (first | exact trivial | refine ⟨rfl, ?_⟩)) (by repeat (first | exact .z | apply Rems.s Rem.z | apply Rems.s (Rem.s Rem.z) | apply Rems.s (Rem.s (Rem.s Rem.z)) | apply Rems.s (Rem.s (Rem.s (Rem.s Rem.z))) | apply Rems.s (Rem.s (Rem.s (Rem.s (Rem.s Rem.z)))) | apply Rems.s (Rem.s (Rem.s (Rem.s (Rem.s (Rem.s Rem.z))))) | apply Rems.s (Rem.s (Rem.s (Rem.s (Rem.s (Rem.s (Rem.s Rem.z)))))) | apply Rems.s (Rem.s (Rem.s (Rem.s (Rem.s (Rem.s (Rem.s (Rem.s Rem.z))))))) | apply Rems.s (Rem.s (Rem.s (Rem.s (Rem.s (Rem.s (Rem.s (Rem.s (Rem.s Rem.z)))))))) | apply Rems.s (Rem.s (Rem.s (Rem.s (Rem.s (Rem.s (Rem.s (Rem.s (Rem.s (Rem.s Rem.z))))))))))))
          · first
            | (exfalso; omega)
            |
              refine r_assign rfl rfl rfl ?_
              refine R_nil ?_
              refine K_tn ?_
              refine K_cond_f rfl ?_
              refine K_skip ?_
              refine K_bn ?_
              refine K_bn ?_
              refine K_tn ?_
              refine R_region ?_
              first | refine r_addN rfl rfl rfl rfl (i64K (by omega) (by omega)) ?_ | refine r_add rfl rfl rfl rfl (i64K (by omega) (by omega)) ?_
              refine r_move rfl rfl rfl ?_
              refine R_nil ?_
              refine K_tn ?_
              first | (have hE := filterI_t (P := (fun i => flt hi (es.getD i 0))) (k := k) h24; have hEl := filterI_tl (P := (fun i => flt hi (es.getD i 0))) (k := k) h24; rw [hE, hEl]) | (have hE := filterI_f (P := (fun i => flt hi (es.getD i 0))) (k := k) h24; have hEl := congrArg List.length hE; rw [hE])
              first | (have hL := filterI_t (P := (fun i => flt (es.getD i 0) lo)) (k := k) h32; have hLl := filterI_tl (P := (fun i => flt (es.getD i 0) lo)) (k := k) h32; rw [hL, hLl]) | (have hL := filterI_f (P := (fun i => flt (es.getD i 0) lo)) (k := k) h32; have hLl := congrArg List.length hL; rw [hL]) | (have hL := filterI_f (P := (fun i => flt (es.getD i 0) lo)) (k := k) (hnb k (by omega) h24); have hLl := congrArg List.length hL; rw [hL])
              first | (exact K_again3 (pre := (fun (k : Nat) (p q : RowP) => k ≤ m ∧ (filterI k (fun i => flt hi (es.getD i 0))).length + p.junk.length = p.cap ∧ (filterI k (fun i => flt (es.getD i 0) lo)).length + q.junk.length = q.cap)) (Ei := (fun k p q => [(1, .float .f32 lo), (2, .float .f32 hi), (8, .slice (some ⟨p.b, 0, none⟩) (filterI k (fun i => flt hi (es.getD i 0))).length p.cap), (9, .slice (some ⟨q.b, 0, none⟩) (filterI k (fun i => flt (es.getD i 0) lo)).length q.cap), (14, .slice (some ⟨b3, 0 + 1, none⟩) m 16), (15, .int .i64 (m : Int)), (16, .int .i64 (k : Int))])) (Hi := (fun k p q => [(p.b, .cells (il (filterI k (fun i => flt hi (es.getD i 0))) ++ p.junk).toArray p.u (0, 0)), (q.b, .cells (il (filterI k (fun i => flt (es.getD i 0) lo)) ++ q.junk).toArray q.u (0, 0)), (b3, .cells (.int .i8 (m : Int) :: fl .f32 es).toArray 54 (0, 0))])) (μ := (fun k _ _ => m - k)) (k + 1) (RowP.mk b28 cap28 junk28 u28) (RowP.mk b36 cap36 junk36 u36) (by refine ⟨?_, ?_, ?_⟩ <;> (try simp only) <;> omega) (by omega) (by repeat (first | exact trivial | refine ⟨rfl, ?_⟩)) (by repeat (first | exact .z | apply Rems.s Rem.z | apply Rems.s (Rem.s Rem.z) | apply Rems.s (Rem.s (Rem.s Rem.z)) | apply Rems.s (Rem.s (Rem.s (Rem.s Rem.z))) | apply Rems.s (Rem.s (Rem.s (Rem.s (Rem.s Rem.z)))) | apply Rems.s (Rem.s (Rem.s (Rem.s (Rem.s (Rem.s Rem.z))))) | apply Rems.s (Rem.s (Rem.s (Rem.s (Rem.s (Rem.s (Rem.s Rem.z)))))) | apply Rems.s (Rem.s (Rem.s (Rem.s (Rem.s (Rem.s (Rem.s (Rem.s Rem.z))))))) | apply Rems.s (Rem.s (Rem.s (Rem.s (Rem.s (Rem.s (Rem.s (Rem.s (Rem.s Rem.z)))))))) | apply Rems.s (Rem.s (Rem.s (Rem.s (Rem.s (Rem.s (Rem.s (Rem.s (Rem.s (Rem.s Rem.z)))))))))))) | (exact K_again3 (pre := (fun (k : Nat) (p q : RowP) => k ≤ m ∧ (filterI k (fun i => flt hi (es.getD i 0))).length + p.junk.length = p.cap ∧ (filterI k (fun i => flt (es.getD i 0) lo)).length + q.junk.length = q.cap)) (Ei := (fun k p q => [(1, .float .f32 lo), (2, .float .f32 hi), (8, .slice (some ⟨p.b, 0, none⟩) (filterI k (fun i => flt hi (es.getD i 0))).length p.cap), (9, .slice (some ⟨q.b, 0, none⟩) (filterI k (fun i => flt (es.getD i 0) lo)).length q.cap), (14, .slice (some ⟨b3, 0 + 1, none⟩) m 16), (15, .int .i64 (m : Int)), (16, .int .i64 (k : Int))])) (Hi := (fun k p q => [(p.b, .cells (il (filterI k (fun i => flt hi (es.getD i 0))) ++ p.junk).toArray p.u (0, 0)), (q.b, .cells (il (filterI k (fun i => flt (es.getD i 0) lo)) ++ q.junk).toArray q.u (0, 0)), (b3, .cells (.int .i8 (m : Int) :: fl .f32 es).toArray 54 (0, 0))])) (μ := (fun k _ _ => m - k)) (k + 1) (RowP.mk b28 cap28 junk28 u28) q (by refine ⟨?_, ?_, ?_⟩ <;> (try simp only) <;> omega) (by omega) (by repeat (first | exact trivial | refine ⟨rfl, ?_⟩)) (by repeat (first | exact .z | apply Rems.s Rem.z | apply Rems.s (Rem.s Rem.z) | apply Rems.s (Rem.s (Rem.s Rem.z)) | apply Rems.s (Rem.s (Rem.s (Rem.s Rem.z))) | apply Rems.s (Rem.s (Rem.s (Rem.s (Rem.s Rem.z)))) | apply Rems.s (Rem.s (Rem.s (Rem.s (Rem.s (Rem.s Rem.z))))) | apply Rems.s (Rem.s (Rem.s (Rem.s (Rem.s (Rem.s (Rem.s Rem.z)))))) | apply Rems.s (Rem.s (Rem.s (Rem.s (Rem.s (Rem.s (Rem.s (Rem.s Rem.z))))))) | apply Rems.s (Rem.s (Rem.s (Rem.s (Rem.s (Rem.s (Rem.s (Rem.s (Rem.s Rem.z)))))))) | apply Rems.s (Rem.s (Rem.s (Rem.s (Rem.s (Rem.s (Rem.s (Rem.s (Rem.s (Rem.s Rem.z)))))))))))) | (exact K_again3 (pre := (fun (k : Nat) (p q : RowP) => k ≤ m ∧ (filterI k (fun i => flt hi (es.getD i 0))).length + p.junk.length = p.cap ∧ (filterI k (fun i => flt (es.getD i 0) lo)).length + q.junk.length = q.cap)) (Ei := (fun k p q => [(1, .float .f32 lo), (2, .float .f32 hi), (8, .slice (some ⟨p.b, 0, none⟩) (filterI k (fun i => flt hi (es.getD i 0))).length p.cap), (9, .slice (some ⟨q.b, 0, none⟩) (filterI k (fun i => flt (es.getD i 0) lo)).length q.cap), (14, .slice (some ⟨b3, 0 + 1, none⟩) m 16), (15, .int .i64 (m : Int)), (16, .int .i64 (k : Int))])) (Hi := (fun k p q => [(p.b, .cells (il (filterI k (fun i => flt hi (es.getD i 0))) ++ p.junk).toArray p.u (0, 0)), (q.b, .cells (il (filterI k (fun i => flt (es.getD i 0) lo)) ++ q.junk).toArray q.u (0, 0)), (b3, .cells (.int .i8 (m : Int) :: fl .f32 es).toArray 54 (0, 0))])) (μ := (fun k _ _ => m - k)) (k + 1) p (RowP.mk b36 cap36 junk36 u36) (by refine ⟨?_, ?_, ?_⟩ <;> (try simp only) <;> omega) (by omega) (by repeat (first | exact trivial | refine ⟨rfl, ?_⟩)) (by repeat (first | exact .z | apply Rems.s Rem.z | apply Rems.s (Rem.s Rem.z) | apply Rems.s (Rem.s (Rem.s Rem.z)) | apply Rems.s (Rem.s (Rem.s (Rem.s Rem.z))) | apply Rems.s (Rem.s (Rem.s (Rem.s (Rem.s Rem.z)))) | apply Rems.s (Rem.s (Rem.s (Rem.s (Rem.s (Rem.s Rem.z))))) | apply Rems.s (Rem.s (Rem.s (Rem.s (Rem.s (Rem.s (Rem.s Rem.z)))))) | apply Rems.s (Rem.s (Rem.s (Rem.s (Rem.s (Rem.s (Rem.s (Rem.s Rem.z))))))) | apply Rems.s (Rem.s (Rem.s (Rem.s (Rem.s (Rem.s (Rem.s (Rem.s (Rem.s Rem.z)))))))) | apply Rems.s (Rem.s (Rem.s (Rem.s (Rem.s (Rem.s (Rem.s (Rem.s (Rem.s (Rem.s Rem.z)))))))))))) | (exact K_again3 (pre := (fun (k : Nat) (p q : RowP) => k ≤ m ∧ (filterI k (fun i => flt hi (es.getD i 0))).length + p.junk.length = p.cap ∧ (filterI k (fun i => flt (es.getD i 0) lo)).length + q.junk.length = q.cap)) (Ei := (fun k p q => [(1, .float .f32 lo), (2, .float .f32 hi), (8, .slice (some ⟨p.b, 0, none⟩) (filterI k (fun i => flt hi (es.getD i 0))).length p.cap), (9, .slice (some ⟨q.b, 0, none⟩) (filterI k (fun i => flt (es.getD i 0) lo)).length q.cap), (14, .slice (some ⟨b3, 0 + 1, none⟩) m 16), (15, .int .i64 (m : Int)), (16, .int .i64 (k : Int))])) (Hi := (fun k p q => [(p.b, .cells (il (filterI k (fun i => flt hi (es.getD i 0))) ++ p.junk).toArray p.u (0, 0)), (q.b, .cells (il (filterI k (fun i => flt (es.getD i 0) lo)) ++ q.junk).toArray q.u (0, 0)), (b3, .cells (.int .i8 (m : Int) :: fl .f32 es).toArray 54 (0, 0))])) (μ := (fun k _ _ => m - k)) (k + 1) p q (by refine ⟨?_, ?_, ?_⟩ <;> (try simp only) <;> omega) (by omega) (by repeat (first | exact trivial | refine ⟨rfl, ?_⟩)) (by repeat (first | exact .z | apply Rems.s Rem.z | apply Rems.s (Rem.s Rem.z) | apply Rems.s (Rem.s (Rem.s Rem.z)) | apply Rems.s (Rem.s (Rem.s (Rem.s Rem.z))) | apply Rems.s (Rem.s (Rem.s (Rem.s (Rem.s Rem.z)))) | apply Rems.s (Rem.s (Rem.s (Rem.s (Rem.s (Rem.s Rem.z))))) | apply Rems.s (Rem.s (Rem.s (Rem.s (Rem.s (Rem.s (Rem.s Rem.z)))))) | apply Rems.s (Rem.s (Rem.s (Rem.s (Rem.s (Rem.s (Rem.s (Rem.s Rem.z))))))) | apply Rems.s (Rem.s (Rem.s (Rem.s (Rem.s (Rem.s (Rem.s (Rem.s (Rem.s Rem.z)))))))) | apply Rems.s (Rem.s (Rem.s (Rem.s (Rem.s (Rem.s (Rem.s (Rem.s (Rem.s (Rem.s Rem.z))))))))))))
  · first
    | (exfalso; omega)
    |
      refine R_nil ?_
      refine K_tn ?_
      refine K_seq ?_
      refine K_cond_f rfl ?_
      refine K_exit ?_
      refine K_te ?_
      refine K_te ?_
      refine K_be ?_
      refine K_tn ?_
      refine K_seq ?_
      refine R_region ?_
      have hkn : k = m := by omega
      subst hkn
      refine r_move rfl rfl rfl ?_
      refine r_move rfl rfl rfl ?_
      refine r_assign rfl rfl rfl ?_
      refine r_assign rfl rfl rfl ?_
      refine R_nil ?_
      refine K_tn ?_
      refine K_ret ?_
      refine K_done (H' := [(p.b, .cells (il (filterI k (fun i => flt hi (es.getD i 0))) ++ p.junk).toArray p.u (0, 0)), (q.b, .cells (il (filterI k (fun i => flt (es.getD i 0) lo)) ++ q.junk).toArray q.u (0, 0))]) rfl rfl (.s (.tmp rfl) (.s (.tmp rfl) .z)) (by repeat (first | exact .z | apply Rems.s Rem.z | apply Rems.s (Rem.s Rem.z) | apply Rems.s (Rem.s (Rem.s Rem.z)) | apply Rems.s (Rem.s (Rem.s (Rem.s Rem.z))) | apply Rems.s (Rem.s (Rem.s (Rem.s (Rem.s Rem.z)))) | apply Rems.s (Rem.s (Rem.s (Rem.s (Rem.s (Rem.s Rem.z))))) | apply Rems.s (Rem.s (Rem.s (Rem.s (Rem.s (Rem.s (Rem.s Rem.z)))))) | apply Rems.s (Rem.s (Rem.s (Rem.s (Rem.s (Rem.s (Rem.s (Rem.s Rem.z))))))) | apply Rems.s (Rem.s (Rem.s (Rem.s (Rem.s (Rem.s (Rem.s (Rem.s (Rem.s Rem.z)))))))) | apply Rems.s (Rem.s (Rem.s (Rem.s (Rem.s (Rem.s (Rem.s (Rem.s (Rem.s (Rem.s Rem.z))))))))))) ?_
      exact ⟨p, q, rfl, hq1, hq2, rfl⟩

theorem earlyAndLate2 (n : Nat) (rs : List Nat) (hl : rs.length = 16) (hn : n ≤ 16) (m : Nat) (fs : List Nat) (hf : fs.length = 16) (hm : m ≤ 16) (c g lo hi : Nat) (hok : okC n rs m fs [c, g, lo, hi] = true) (hlh : fle lo hi = true) : Go.Sl.Spec Try.prog 86 [.agg (.int .i8 (m : Int) :: fl .f32 (mapTo (arrF n rs c g) m fs)).toArray, .float .f32 lo, .float .f32 hi] [] [] (RowII (filterI m (isEarly (arrF n rs c g) fs hi)) (filterI m (isLate (arrF n rs c g) fs lo))) := by
  obtain ⟨hvm, hv, hc, hg, hpl, hph⟩ := okC_4 hok
  have := earlyAndLate m (mapTo (arrF n rs c g) m fs) (by rw [mapTo_len, hf]) hm lo hi (fun i hi2 h => by
    rw [mapTo_at (by omega) (by omega), if_pos hi2] at h ⊢
    exact flt_not_both (ripeTo_part hv hc hg (vAt_part hvm (by omega)) _ (by omega)) hpl hph hlh h)
  rw [mapTo_early (by omega), mapTo_late (by omega)] at this
  exact this

set_option maxRecDepth 20000 in
theorem toFloat32S (b off len cap : Nat) (l : List Value) (u : TypeId) (fr : Nat × Nat) (es : List Nat) (he : es.length = len) (hl : ∀ i, i < len → l[off + i * 1]? = some (.float .f32 (es.getD i 0))) (hb : len ≤ 1048576) : Go.Sl.Spec Try.prog 55 [.slice (some ⟨b, off, none⟩) len cap] [(b, .cells l.toArray u fr)] [] (RowF es len) := by
  refine spec_of Try.func55 rfl Try.ntmps55 rfl (fun w0 => ?_)
  refine K_seq ?_
  refine R_region ?_
  refine r_assign rfl rfl rfl ?_
  refine R_nil ?_
  refine K_tn ?_
  refine K_seq ?_
  refine R_region ?_
  refine r_move rfl rfl rfl ?_
  refine r_lenS sl_47 rfl rfl rfl ?_
  refine r_makeSlice sl_47 sz_23 zr_23 rfl by_23 rfl rfl rfl rfl ⟨by omega, by omega⟩ (fun b7 => ?_)
  rw [zF es]
  refine r_assign rfl rfl rfl ?_
  refine R_nil ?_
  refine K_tn ?_
  refine K_seq ?_
  refine K_seq ?_
  refine R_region ?_
  refine r_assign rfl rfl rfl ?_
  refine R_nil ?_
  refine K_tn ?_
  refine K_block ?_
  refine K_loop (fun (k : Nat) => k ≤ len) (fun k => [(0, .slice (some ⟨b, off, none⟩) len cap), (3, .slice (some ⟨b7, 0, none⟩) len len), (4, .int .i64 (k : Int))]) (fun k => [(b7, .cells (fl .f32 (cp es k len)).toArray 23 (0, 0))]) (fun k => len - k) 0 (by omega) (by repeat (first | exact trivial | refine ⟨rfl, ?_⟩)) (by repeat (first | exact .z | apply Rems.s Rem.z | apply Rems.s (Rem.s Rem.z) | apply Rems.s (Rem.s (Rem.s Rem.z)) | apply Rems.s (Rem.s (Rem.s (Rem.s Rem.z))) | apply Rems.s (Rem.s (Rem.s (Rem.s (Rem.s Rem.z)))) | apply Rems.s (Rem.s (Rem.s (Rem.s (Rem.s (Rem.s Rem.z))))) | apply Rems.s (Rem.s (Rem.s (Rem.s (Rem.s (Rem.s (Rem.s Rem.z)))))) | apply Rems.s (Rem.s (Rem.s (Rem.s (Rem.s (Rem.s (Rem.s (Rem.s Rem.z))))))) | apply Rems.s (Rem.s (Rem.s (Rem.s (Rem.s (Rem.s (Rem.s (Rem.s (Rem.s Rem.z)))))))) | apply Rems.s (Rem.s (Rem.s (Rem.s (Rem.s (Rem.s (Rem.s (Rem.s (Rem.s (Rem.s Rem.z))))))))))) (fun k hp => ?_)
  refine K_seq ?_
  refine K_seq ?_
  refine R_region ?_
  refine r_move rfl rfl rfl ?_
  refine r_move rfl rfl rfl ?_
  refine r_lenS sl_47 rfl rfl rfl ?_
  refine s_lss rfl rfl rfl rfl (fun h11 => ?_) (fun h11 => ?_)
  · first
    | (exfalso; omega)
    |
      refine R_nil ?_
      refine K_tn ?_
      refine K_cond_t rfl ?_
      refine K_skip ?_
      refine K_tn ?_
      refine K_seq ?_
      refine K_block ?_
      refine R_region ?_
      refine r_move rfl rfl rfl ?_
      refine r_move rfl rfl rfl ?_
      refine r_move rfl rfl rfl ?_
      refine r_move rfl rfl rfl ?_
      refine r_indexS sl_47 sz_23 rfl rfl rfl rfl (by omega) ?_
      refine r_load ag_23 rfl rfl rfl (by first | exact .h .z | exact .h (.s .z) | exact .h (.s (.s .z)) | exact .h (.s (.s (.s .z))) | exact .h (.s (.s (.s (.s .z)))) | exact .h (.s (.s (.s (.s (.s .z))))) | exact .h (.s (.s (.s (.s (.s (.s .z)))))) | exact .h (.s (.s (.s (.s (.s (.s (.s .z))))))) | exact .h (.s (.s (.s (.s (.s (.s (.s (.s .z)))))))) | exact .x .z | exact .x (.s .z) | exact .x (.s (.s .z)) | exact .x (.s (.s (.s .z))) | exact .x (.s (.s (.s (.s .z)))) | exact .x (.s (.s (.s (.s (.s .z))))) | exact .x (.s (.s (.s (.s (.s (.s .z))))))) (by first | rfl | exact hl _ (by omega)) ?_
      refine r_indexS sl_47 sz_23 rfl rfl rfl rfl (by omega) ?_
      refine r_store sz_23 rfl rfl rfl rfl (by first | exact .z | exact (.s .z) | exact (.s (.s .z)) | exact (.s (.s (.s .z))) | exact (.s (.s (.s (.s .z)))) | exact (.s (.s (.s (.s (.s .z))))) | exact (.s (.s (.s (.s (.s (.s .z)))))) | exact (.s (.s (.s (.s (.s (.s (.s .z))))))) | exact (.s (.s (.s (.s (.s (.s (.s (.s .z)))))))) | exact (.s (.s (.s (.s (.s (.s (.s (.s (.s .z)))))))))) (by first | rfl | exact bltF0 (by simp [cp, he]; omega)) ?_
      refine R_nil ?_
      refine K_bn ?_
      refine K_tn ?_
      refine R_region ?_
      refine r_move rfl rfl rfl ?_
      first | refine r_addN rfl rfl rfl rfl (i64K (by omega) (by omega)) ?_ | refine r_add rfl rfl rfl rfl (i64K (by omega) (by omega)) ?_
      refine r_assign rfl rfl rfl ?_
      refine R_nil ?_
      refine K_tn ?_
      rw [setF0, cp_set (by omega) hp he]
      exact K_again (k + 1) (by omega) (by omega) (by repeat (first | exact trivial | refine ⟨rfl, ?_⟩)) (by repeat (first | exact .z | apply Rems.s Rem.z | apply Rems.s (Rem.s Rem.z) | apply Rems.s (Rem.s (Rem.s Rem.z)) | apply Rems.s (Rem.s (Rem.s (Rem.s Rem.z))) | apply Rems.s (Rem.s (Rem.s (Rem.s (Rem.s Rem.z)))) | apply Rems.s (Rem.s (Rem.s (Rem.s (Rem.s (Rem.s Rem.z))))) | apply Rems.s (Rem.s (Rem.s (Rem.s (Rem.s (Rem.s (Rem.s Rem.z)))))) | apply Rems.s (Rem.s (Rem.s (Rem.s (Rem.s (Rem.s (Rem.s (Rem.s Rem.z))))))) | apply Rems.s (Rem.s (Rem.s (Rem.s (Rem.s (Rem.s (Rem.s (Rem.s (Rem.s Rem.z)))))))) | apply Rems.s (Rem.s (Rem.s (Rem.s (Rem.s (Rem.s (Rem.s (Rem.s (Rem.s (Rem.s Rem.z)))))))))))
  · first
    | (exfalso; omega)
    |
      refine R_nil ?_
      refine K_tn ?_
      refine K_cond_f rfl ?_
      refine K_exit ?_
      refine K_te ?_
      refine K_te ?_
      refine K_be ?_
      refine K_tn ?_
      refine K_seq ?_
      refine R_region ?_
      have hk : k = len := by omega
      subst hk
      refine r_move rfl rfl rfl ?_
      refine r_assign rfl rfl rfl ?_
      refine R_nil ?_
      refine K_tn ?_
      refine K_ret ?_
      refine K_done (H' := [(b7, .cells (fl .f32 (cp es k k)).toArray 23 (0, 0))]) rfl rfl (.s (.tmp rfl) .z) (by repeat (first | exact .z | apply Rems.s Rem.z | apply Rems.s (Rem.s Rem.z) | apply Rems.s (Rem.s (Rem.s Rem.z)) | apply Rems.s (Rem.s (Rem.s (Rem.s Rem.z))) | apply Rems.s (Rem.s (Rem.s (Rem.s (Rem.s Rem.z)))) | apply Rems.s (Rem.s (Rem.s (Rem.s (Rem.s (Rem.s Rem.z))))) | apply Rems.s (Rem.s (Rem.s (Rem.s (Rem.s (Rem.s (Rem.s Rem.z)))))) | apply Rems.s (Rem.s (Rem.s (Rem.s (Rem.s (Rem.s (Rem.s (Rem.s Rem.z))))))) | apply Rems.s (Rem.s (Rem.s (Rem.s (Rem.s (Rem.s (Rem.s (Rem.s (Rem.s Rem.z)))))))) | apply Rems.s (Rem.s (Rem.s (Rem.s (Rem.s (Rem.s (Rem.s (Rem.s (Rem.s (Rem.s Rem.z))))))))))) ?_
      exact ⟨b7, _, [], _, rfl, rfl, he, by rw [cp_full he, List.append_nil]⟩

set_option maxRecDepth 20000 in
theorem toFloat32S_nil (a : Option Addr) (cap : Nat) : Go.Sl.Spec Try.prog 55 [.slice a 0 cap] [] [] (RowF [] 0) := by
  refine spec_of Try.func55 rfl Try.ntmps55 rfl (fun w0 => ?_)
  refine K_seq ?_
  refine R_region ?_
  refine r_assign rfl rfl rfl ?_
  refine R_nil ?_
  refine K_tn ?_
  refine K_seq ?_
  refine R_region ?_
  refine r_move rfl rfl rfl ?_
  refine r_lenS sl_47 rfl rfl rfl ?_
  refine r_makeSlice sl_47 sz_23 zr_23 rfl by_23 rfl rfl rfl rfl ⟨by omega, by omega⟩ (fun b7 => ?_)
  rw [zF ([] : List Nat)]
  refine r_assign rfl rfl rfl ?_
  refine R_nil ?_
  refine K_tn ?_
  refine K_seq ?_
  refine K_seq ?_
  refine R_region ?_
  refine r_assign rfl rfl rfl ?_
  refine R_nil ?_
  refine K_tn ?_
  refine K_block ?_
  refine K_loop (fun (k : Nat) => k ≤ 0) (fun k => [(0, .slice a 0 cap), (3, .slice (some ⟨b7, 0, none⟩) 0 0), (4, .int .i64 (k : Int))]) (fun k => [(b7, .cells (fl .f32 (cp ([] : List Nat) k 0)).toArray 23 (0, 0))]) (fun k => 0 - k) 0 (by omega) (by repeat (first | exact trivial | refine ⟨rfl, ?_⟩)) (by repeat (first | exact .z | apply Rems.s Rem.z | apply Rems.s (Rem.s Rem.z) | apply Rems.s (Rem.s (Rem.s Rem.z)) | apply Rems.s (Rem.s (Rem.s (Rem.s Rem.z))) | apply Rems.s (Rem.s (Rem.s (Rem.s (Rem.s Rem.z)))) | apply Rems.s (Rem.s (Rem.s (Rem.s (Rem.s (Rem.s Rem.z))))) | apply Rems.s (Rem.s (Rem.s (Rem.s (Rem.s (Rem.s (Rem.s Rem.z)))))) | apply Rems.s (Rem.s (Rem.s (Rem.s (Rem.s (Rem.s (Rem.s (Rem.s Rem.z))))))) | apply Rems.s (Rem.s (Rem.s (Rem.s (Rem.s (Rem.s (Rem.s (Rem.s (Rem.s Rem.z)))))))) | apply Rems.s (Rem.s (Rem.s (Rem.s (Rem.s (Rem.s (Rem.s (Rem.s (Rem.s (Rem.s Rem.z))))))))))) (fun k hp => ?_)
  refine K_seq ?_
  refine K_seq ?_
  refine R_region ?_
  refine r_move rfl rfl rfl ?_
  refine r_move rfl rfl rfl ?_
  refine r_lenS sl_47 rfl rfl rfl ?_
  refine s_lss rfl rfl rfl rfl (fun h11 => ?_) (fun h11 => ?_)
  · first
    | (exfalso; omega)
    |
      refine R_nil ?_
      refine K_tn ?_
      refine K_cond_t rfl ?_
      refine K_skip ?_
      refine K_tn ?_
      refine K_seq ?_
      refine K_block ?_
      refine R_region ?_
      refine r_move rfl rfl rfl ?_
      refine r_move rfl rfl rfl ?_
      refine r_move rfl rfl rfl ?_
      refine r_move rfl rfl rfl ?_
      refine r_indexS sl_47 sz_23 rfl rfl rfl rfl (by omega) ?_
      refine r_load ag_23 rfl rfl rfl (by first | exact .h .z | exact .h (.s .z) | exact .h (.s (.s .z)) | exact .h (.s (.s (.s .z))) | exact .h (.s (.s (.s (.s .z)))) | exact .h (.s (.s (.s (.s (.s .z))))) | exact .h (.s (.s (.s (.s (.s (.s .z)))))) | exact .h (.s (.s (.s (.s (.s (.s (.s .z))))))) | exact .h (.s (.s (.s (.s (.s (.s (.s (.s .z)))))))) | exact .x .z | exact .x (.s .z) | exact .x (.s (.s .z)) | exact .x (.s (.s (.s .z))) | exact .x (.s (.s (.s (.s .z)))) | exact .x (.s (.s (.s (.s (.s .z))))) | exact .x (.s (.s (.s (.s (.s (.s .z))))))) (by first | rfl | exact hl _ (by omega)) ?_
      refine r_indexS sl_47 sz_23 rfl rfl rfl rfl (by omega) ?_
      refine r_store sz_23 rfl rfl rfl rfl (by first | exact .z | exact (.s .z) | exact (.s (.s .z)) | exact (.s (.s (.s .z))) | exact (.s (.s (.s (.s .z)))) | exact (.s (.s (.s (.s (.s .z))))) | exact (.s (.s (.s (.s (.s (.s .z)))))) | exact (.s (.s (.s (.s (.s (.s (.s .z))))))) | exact (.s (.s (.s (.s (.s (.s (.s (.s .z)))))))) | exact (.s (.s (.s (.s (.s (.s (.s (.s (.s .z)))))))))) (by first | rfl | exact bltF0 (by simp [cp, he]; omega)) ?_
      refine R_nil ?_
      refine K_bn ?_
      refine K_tn ?_
      refine R_region ?_
      refine r_move rfl rfl rfl ?_
      first | refine r_addN rfl rfl rfl rfl (i64K (by omega) (by omega)) ?_ | refine r_add rfl rfl rfl rfl (i64K (by omega) (by omega)) ?_
      refine r_assign rfl rfl rfl ?_
      refine R_nil ?_
      refine K_tn ?_
      exact K_again (k + 1) (by omega) (by omega) (by repeat (first | exact trivial | refine ⟨rfl, ?_⟩)) (by repeat (first | exact .z | apply Rems.s Rem.z | apply Rems.s (Rem.s Rem.z) | apply Rems.s (Rem.s (Rem.s Rem.z)) | apply Rems.s (Rem.s (Rem.s (Rem.s Rem.z))) | apply Rems.s (Rem.s (Rem.s (Rem.s (Rem.s Rem.z)))) | apply Rems.s (Rem.s (Rem.s (Rem.s (Rem.s (Rem.s Rem.z))))) | apply Rems.s (Rem.s (Rem.s (Rem.s (Rem.s (Rem.s (Rem.s Rem.z)))))) | apply Rems.s (Rem.s (Rem.s (Rem.s (Rem.s (Rem.s (Rem.s (Rem.s Rem.z))))))) | apply Rems.s (Rem.s (Rem.s (Rem.s (Rem.s (Rem.s (Rem.s (Rem.s (Rem.s Rem.z)))))))) | apply Rems.s (Rem.s (Rem.s (Rem.s (Rem.s (Rem.s (Rem.s (Rem.s (Rem.s (Rem.s Rem.z)))))))))))
  · first
    | (exfalso; omega)
    |
      refine R_nil ?_
      refine K_tn ?_
      refine K_cond_f rfl ?_
      refine K_exit ?_
      refine K_te ?_
      refine K_te ?_
      refine K_be ?_
      refine K_tn ?_
      refine K_seq ?_
      refine R_region ?_
      have hk : k = 0 := by omega
      subst hk
      refine r_move rfl rfl rfl ?_
      refine r_assign rfl rfl rfl ?_
      refine R_nil ?_
      refine K_tn ?_
      refine K_ret ?_
      refine K_done (H' := [(b7, .cells (fl .f32 (cp ([] : List Nat) 0 0)).toArray 23 (0, 0))]) rfl rfl (.s (.tmp rfl) .z) (by repeat (first | exact .z | apply Rems.s Rem.z | apply Rems.s (Rem.s Rem.z) | apply Rems.s (Rem.s (Rem.s Rem.z)) | apply Rems.s (Rem.s (Rem.s (Rem.s Rem.z))) | apply Rems.s (Rem.s (Rem.s (Rem.s (Rem.s Rem.z)))) | apply Rems.s (Rem.s (Rem.s (Rem.s (Rem.s (Rem.s Rem.z))))) | apply Rems.s (Rem.s (Rem.s (Rem.s (Rem.s (Rem.s (Rem.s Rem.z)))))) | apply Rems.s (Rem.s (Rem.s (Rem.s (Rem.s (Rem.s (Rem.s (Rem.s Rem.z))))))) | apply Rems.s (Rem.s (Rem.s (Rem.s (Rem.s (Rem.s (Rem.s (Rem.s (Rem.s Rem.z)))))))) | apply Rems.s (Rem.s (Rem.s (Rem.s (Rem.s (Rem.s (Rem.s (Rem.s (Rem.s (Rem.s Rem.z))))))))))) ?_
      exact ⟨b7, _, [], _, rfl, rfl, rfl, rfl⟩

theorem sameFloat_W (p a b : Nat) (ha : Wide p a) (hb : Wide p b) : SpecV Try.prog 24 [.float .f64 a, .float .f64 b] [] (.bool true) := by
  cases h : nan p with
  | true => exact sameFloat_nan a b (ha.1.trans h) (hb.1.trans h)
  | false =>
    rw [ha.eq hb h]
    exact sameFloat_num b (hb.1.trans h)

set_option maxRecDepth 20000 in
theorem eqFloat32S (b off len cap : Nat) (l : List Value) (u : TypeId) (fr : Nat × Nat) (es : List Nat) (he : es.length = len) (hl : ∀ i, i < len → l[off + i * 1]? = some (.float .f32 (es.getD i 0))) (b2 off2 cap2 : Nat) (l2 : List Value) (u2 : TypeId) (fr2 : Nat × Nat) (hl2 : ∀ i, i < len → l2[off2 + i * 1]? = some (.float .f32 (es.getD i 0))) (hb : len ≤ 9223372036854775807) : SpecV Try.prog 38 [.slice (some ⟨b, off, none⟩) len cap, .slice (some ⟨b2, off2, none⟩) len cap2] [(b, .cells l.toArray u fr), (b2, .cells l2.toArray u2 fr2)] (.bool true) := by
  refine spec_of Try.func38 rfl Try.ntmps38 rfl (fun w0 => ?_)
  refine K_seq ?_
  refine R_region ?_
  refine r_assign rfl rfl rfl ?_
  refine R_nil ?_
  refine K_tn ?_
  refine K_seq ?_
  refine K_seq ?_
  refine R_region ?_
  refine r_move rfl rfl rfl ?_
  refine r_lenS sl_47 rfl rfl rfl ?_
  refine r_move rfl rfl rfl ?_
  refine r_lenS sl_47 rfl rfl rfl ?_
  refine s_neq rfl rfl rfl rfl (fun h10 => ?_) (fun h10 => ?_)
  · first
    | (exfalso; omega)
    |
      refine R_nil ?_
      refine K_tn ?_
      refine K_cond_t rfl ?_
      refine K_seq ?_
      refine R_region ?_
      refine r_assign rfl rfl rfl ?_
      refine R_nil ?_
      refine K_tn ?_
      refine K_ret ?_
      refine K_tr ?_
      refine K_done (H' := []) rfl rfl (.s (.tmp rfl) .z) (by repeat (first | exact .z | apply Rems.s Rem.z | apply Rems.s (Rem.s Rem.z) | apply Rems.s (Rem.s (Rem.s Rem.z)) | apply Rems.s (Rem.s (Rem.s (Rem.s Rem.z))) | apply Rems.s (Rem.s (Rem.s (Rem.s (Rem.s Rem.z)))) | apply Rems.s (Rem.s (Rem.s (Rem.s (Rem.s (Rem.s Rem.z))))) | apply Rems.s (Rem.s (Rem.s (Rem.s (Rem.s (Rem.s (Rem.s Rem.z)))))) | apply Rems.s (Rem.s (Rem.s (Rem.s (Rem.s (Rem.s (Rem.s (Rem.s Rem.z))))))) | apply Rems.s (Rem.s (Rem.s (Rem.s (Rem.s (Rem.s (Rem.s (Rem.s (Rem.s Rem.z)))))))) | apply Rems.s (Rem.s (Rem.s (Rem.s (Rem.s (Rem.s (Rem.s (Rem.s (Rem.s (Rem.s Rem.z))))))))))) ?_
      refine ⟨?_, rfl⟩
      rfl
  · first
    | (exfalso; omega)
    |
      refine R_nil ?_
      refine K_tn ?_
      refine K_cond_f rfl ?_
      refine K_skip ?_
      refine K_tn ?_
      refine K_seq ?_
      refine K_seq ?_
      refine R_region ?_
      refine r_assign rfl rfl rfl ?_
      refine R_nil ?_
      refine K_tn ?_
      refine K_block ?_
      refine K_loop (fun (k : Nat) => k ≤ len) (fun k => [(0, .slice (some ⟨b, off, none⟩) len cap), (1, .slice (some ⟨b2, off2, none⟩) len cap2), (5, .int .i64 (k : Int))]) (fun _ => []) (fun k => len - k) 0 (by omega) (by repeat (first | exact trivial | refine ⟨rfl, ?_⟩)) (by repeat (first | exact .z | apply Rems.s Rem.z | apply Rems.s (Rem.s Rem.z) | apply Rems.s (Rem.s (Rem.s Rem.z)) | apply Rems.s (Rem.s (Rem.s (Rem.s Rem.z))) | apply Rems.s (Rem.s (Rem.s (Rem.s (Rem.s Rem.z)))) | apply Rems.s (Rem.s (Rem.s (Rem.s (Rem.s (Rem.s Rem.z))))) | apply Rems.s (Rem.s (Rem.s (Rem.s (Rem.s (Rem.s (Rem.s Rem.z)))))) | apply Rems.s (Rem.s (Rem.s (Rem.s (Rem.s (Rem.s (Rem.s (Rem.s Rem.z))))))) | apply Rems.s (Rem.s (Rem.s (Rem.s (Rem.s (Rem.s (Rem.s (Rem.s (Rem.s Rem.z)))))))) | apply Rems.s (Rem.s (Rem.s (Rem.s (Rem.s (Rem.s (Rem.s (Rem.s (Rem.s (Rem.s Rem.z))))))))))) (fun k hp => ?_)
      refine K_seq ?_
      refine K_seq ?_
      refine R_region ?_
      refine r_move rfl rfl rfl ?_
      refine r_move rfl rfl rfl ?_
      refine r_lenS sl_47 rfl rfl rfl ?_
      refine s_lss rfl rfl rfl rfl (fun h14 => ?_) (fun h14 => ?_)
      · first
        | (exfalso; omega)
        |
          refine R_nil ?_
          refine K_tn ?_
          refine K_cond_t rfl ?_
          refine K_skip ?_
          refine K_tn ?_
          refine K_seq ?_
          refine K_block ?_
          refine K_seq ?_
          refine R_drawG [4, 9, 10, 11] mixed (by decide) (by kernel_rfl) Rems.all ?_
          refine q_pure rfl rfl (p_move rfl) ?_
          refine q_pure rfl rfl (p_move rfl) ?_
          refine q_pure rfl rfl (p_indexS sl_47 sz_23 rfl rfl (by omega)) ?_
          refine q_pure rfl rfl (p_load ag_23 rfl (by first | exact .h .z | exact .h (.s .z) | exact .h (.s (.s .z)) | exact .h (.s (.s (.s .z))) | exact .h (.s (.s (.s (.s .z)))) | exact .h (.s (.s (.s (.s (.s .z))))) | exact .h (.s (.s (.s (.s (.s (.s .z)))))) | exact .h (.s (.s (.s (.s (.s (.s (.s .z))))))) | exact .h (.s (.s (.s (.s (.s (.s (.s (.s .z)))))))) | exact .x .z | exact .x (.s .z) | exact .x (.s (.s .z)) | exact .x (.s (.s (.s .z))) | exact .x (.s (.s (.s (.s .z)))) | exact .x (.s (.s (.s (.s (.s .z))))) | exact .x (.s (.s (.s (.s (.s (.s .z))))))) (by first | rfl | exact hl _ (by omega) | exact hl2 _ (by omega))) ?_
          refine q_dummy ?_
          refine q_pure rfl rfl (p_move rfl) ?_
          refine q_pure rfl rfl (p_move rfl) ?_
          refine q_pure rfl rfl (p_indexS sl_47 sz_23 rfl rfl (by omega)) ?_
          refine q_pure rfl rfl (p_load ag_23 rfl (by first | exact .h .z | exact .h (.s .z) | exact .h (.s (.s .z)) | exact .h (.s (.s (.s .z))) | exact .h (.s (.s (.s (.s .z)))) | exact .h (.s (.s (.s (.s (.s .z))))) | exact .h (.s (.s (.s (.s (.s (.s .z)))))) | exact .h (.s (.s (.s (.s (.s (.s (.s .z))))))) | exact .h (.s (.s (.s (.s (.s (.s (.s (.s .z)))))))) | exact .x .z | exact .x (.s .z) | exact .x (.s (.s .z)) | exact .x (.s (.s (.s .z))) | exact .x (.s (.s (.s (.s .z)))) | exact .x (.s (.s (.s (.s (.s .z))))) | exact .x (.s (.s (.s (.s (.s (.s .z))))))) (by first | rfl | exact hl _ (by omega) | exact hl2 _ (by omega))) ?_
          refine q_dummy ?_
          refine q_dummy ?_
          refine q_dummy ?_
          refine q_tree ?_
          refine tree_step ?_
          refine ta_go [(20, _)] [20] rfl ⟨rfl, trivial⟩ rfl (by kernel_rfl) (fun F => ?_) ?_
          ·
            refine r_convW ⟨_, un_23⟩ un_36 rfl rfl rfl (fun z21 hz21 => ?_)
            refine tree_end rfl (by repeat (first | exact .z | apply Rems.s Rem.z | apply Rems.s (Rem.s Rem.z) | apply Rems.s (Rem.s (Rem.s Rem.z)) | apply Rems.s (Rem.s (Rem.s (Rem.s Rem.z))) | apply Rems.s (Rem.s (Rem.s (Rem.s (Rem.s Rem.z)))) | apply Rems.s (Rem.s (Rem.s (Rem.s (Rem.s (Rem.s Rem.z))))) | apply Rems.s (Rem.s (Rem.s (Rem.s (Rem.s (Rem.s (Rem.s Rem.z)))))) | apply Rems.s (Rem.s (Rem.s (Rem.s (Rem.s (Rem.s (Rem.s (Rem.s Rem.z))))))) | apply Rems.s (Rem.s (Rem.s (Rem.s (Rem.s (Rem.s (Rem.s (Rem.s (Rem.s Rem.z)))))))) | apply Rems.s (Rem.s (Rem.s (Rem.s (Rem.s (Rem.s (Rem.s (Rem.s (Rem.s (Rem.s Rem.z))))))))))) ?_
            refine tree_step ?_
            refine ta_done rfl ?_
            refine ta_go [(25, _)] [25] rfl ⟨rfl, trivial⟩ rfl (by kernel_rfl) (fun F => ?_) ?_
            ·
              refine r_convW ⟨_, un_23⟩ un_36 rfl rfl rfl (fun z26 hz26 => ?_)
              refine tree_end rfl (by repeat (first | exact .z | apply Rems.s Rem.z | apply Rems.s (Rem.s Rem.z) | apply Rems.s (Rem.s (Rem.s Rem.z)) | apply Rems.s (Rem.s (Rem.s (Rem.s Rem.z))) | apply Rems.s (Rem.s (Rem.s (Rem.s (Rem.s Rem.z)))) | apply Rems.s (Rem.s (Rem.s (Rem.s (Rem.s (Rem.s Rem.z))))) | apply Rems.s (Rem.s (Rem.s (Rem.s (Rem.s (Rem.s (Rem.s Rem.z)))))) | apply Rems.s (Rem.s (Rem.s (Rem.s (Rem.s (Rem.s (Rem.s (Rem.s Rem.z))))))) | apply Rems.s (Rem.s (Rem.s (Rem.s (Rem.s (Rem.s (Rem.s (Rem.s (Rem.s Rem.z)))))))) | apply Rems.s (Rem.s (Rem.s (Rem.s (Rem.s (Rem.s (Rem.s (Rem.s (Rem.s (Rem.s Rem.z))))))))))) ?_
              refine tree_step ?_
              refine ta_done rfl ?_
              refine ta_done rfl ?_
              refine ta_go [] [] rfl trivial rfl (by kernel_rfl) (fun F => ?_) ?_
              ·
                refine r_callV cb_24 rfl rfl rfl rfl rfl (sameFloat_W _ _ _ (by assumption) (by assumption)) (by repeat (first | exact .z | refine .s (.h .z) ?_ | refine .s (.h (.s .z)) ?_ | refine .s (.h (.s (.s .z))) ?_ | refine .s (.h (.s (.s (.s .z)))) ?_ | refine .s (.h (.s (.s (.s (.s .z))))) ?_ | refine .s (.h (.s (.s (.s (.s (.s .z)))))) ?_ | refine .s (.h (.s (.s (.s (.s (.s (.s .z))))))) ?_ | refine .s (.h (.s (.s (.s (.s (.s (.s (.s .z)))))))) ?_ | refine .s (.h (.s (.s (.s (.s (.s (.s (.s (.s .z))))))))) ?_ | refine .s (.x .z) ?_ | refine .s (.x (.s .z)) ?_ | refine .s (.x (.s (.s .z))) ?_ | refine .s (.x (.s (.s (.s .z)))) ?_ | refine .s (.x (.s (.s (.s (.s .z))))) ?_ | refine .s (.x (.s (.s (.s (.s (.s .z)))))) ?_ | refine .s (.x (.s (.s (.s (.s (.s (.s .z))))))) ?_)) ?_
                refine tree_end rfl (by repeat (first | exact .z | apply Rems.s Rem.z | apply Rems.s (Rem.s Rem.z) | apply Rems.s (Rem.s (Rem.s Rem.z)) | apply Rems.s (Rem.s (Rem.s (Rem.s Rem.z))) | apply Rems.s (Rem.s (Rem.s (Rem.s (Rem.s Rem.z)))) | apply Rems.s (Rem.s (Rem.s (Rem.s (Rem.s (Rem.s Rem.z))))) | apply Rems.s (Rem.s (Rem.s (Rem.s (Rem.s (Rem.s (Rem.s Rem.z)))))) | apply Rems.s (Rem.s (Rem.s (Rem.s (Rem.s (Rem.s (Rem.s (Rem.s Rem.z))))))) | apply Rems.s (Rem.s (Rem.s (Rem.s (Rem.s (Rem.s (Rem.s (Rem.s (Rem.s Rem.z)))))))) | apply Rems.s (Rem.s (Rem.s (Rem.s (Rem.s (Rem.s (Rem.s (Rem.s (Rem.s (Rem.s Rem.z))))))))))) ?_
                refine tree_step ?_
                refine ta_done rfl ?_
                refine ta_done rfl ?_
                refine ta_done rfl ?_
                refine ta_go [] [] rfl trivial rfl (by kernel_rfl) (fun F => ?_) ?_
                ·
                  refine r_not rfl rfl rfl ?_
                  refine tree_end rfl (by repeat (first | exact .z | apply Rems.s Rem.z | apply Rems.s (Rem.s Rem.z) | apply Rems.s (Rem.s (Rem.s Rem.z)) | apply Rems.s (Rem.s (Rem.s (Rem.s Rem.z))) | apply Rems.s (Rem.s (Rem.s (Rem.s (Rem.s Rem.z)))) | apply Rems.s (Rem.s (Rem.s (Rem.s (Rem.s (Rem.s Rem.z))))) | apply Rems.s (Rem.s (Rem.s (Rem.s (Rem.s (Rem.s (Rem.s Rem.z)))))) | apply Rems.s (Rem.s (Rem.s (Rem.s (Rem.s (Rem.s (Rem.s (Rem.s Rem.z))))))) | apply Rems.s (Rem.s (Rem.s (Rem.s (Rem.s (Rem.s (Rem.s (Rem.s (Rem.s Rem.z)))))))) | apply Rems.s (Rem.s (Rem.s (Rem.s (Rem.s (Rem.s (Rem.s (Rem.s (Rem.s (Rem.s Rem.z))))))))))) ?_
                  refine tree_zero ?_
                  refine K_tn ?_
                  refine K_cond_f rfl ?_
                  refine K_skip ?_
                  refine K_bn ?_
                  refine K_tn ?_
                  refine R_region ?_
                  refine r_move rfl rfl rfl ?_
                  first | refine r_addN rfl rfl rfl rfl (i64K (by omega) (by omega)) ?_ | refine r_add rfl rfl rfl rfl (i64K (by omega) (by omega)) ?_
                  refine r_assign rfl rfl rfl ?_
                  refine R_nil ?_
                  refine K_tn ?_
                  exact K_again (k + 1) (by omega) (by omega) (by repeat (first | exact trivial | refine ⟨rfl, ?_⟩)) (by repeat (first | exact .z | apply Rems.s Rem.z | apply Rems.s (Rem.s Rem.z) | apply Rems.s (Rem.s (Rem.s Rem.z)) | apply Rems.s (Rem.s (Rem.s (Rem.s Rem.z))) | apply Rems.s (Rem.s (Rem.s (Rem.s (Rem.s Rem.z)))) | apply Rems.s (Rem.s (Rem.s (Rem.s (Rem.s (Rem.s Rem.z))))) | apply Rems.s (Rem.s (Rem.s (Rem.s (Rem.s (Rem.s (Rem.s Rem.z)))))) | apply Rems.s (Rem.s (Rem.s (Rem.s (Rem.s (Rem.s (Rem.s (Rem.s Rem.z))))))) | apply Rems.s (Rem.s (Rem.s (Rem.s (Rem.s (Rem.s (Rem.s (Rem.s (Rem.s Rem.z)))))))) | apply Rems.s (Rem.s (Rem.s (Rem.s (Rem.s (Rem.s (Rem.s (Rem.s (Rem.s (Rem.s Rem.z)))))))))))
                exact ta_nil
              refine ta_wait (by kernel_rfl) ?_
              exact ta_nil
            refine ta_wait (by kernel_rfl) ?_
            refine ta_wait (by kernel_rfl) ?_
            exact ta_nil
          refine ta_go [(25, _)] [25] rfl ⟨rfl, trivial⟩ rfl (by kernel_rfl) (fun F => ?_) ?_
          ·
            refine r_convW ⟨_, un_23⟩ un_36 rfl rfl rfl (fun z26 hz26 => ?_)
            refine tree_end rfl (by repeat (first | exact .z | apply Rems.s Rem.z | apply Rems.s (Rem.s Rem.z) | apply Rems.s (Rem.s (Rem.s Rem.z)) | apply Rems.s (Rem.s (Rem.s (Rem.s Rem.z))) | apply Rems.s (Rem.s (Rem.s (Rem.s (Rem.s Rem.z)))) | apply Rems.s (Rem.s (Rem.s (Rem.s (Rem.s (Rem.s Rem.z))))) | apply Rems.s (Rem.s (Rem.s (Rem.s (Rem.s (Rem.s (Rem.s Rem.z)))))) | apply Rems.s (Rem.s (Rem.s (Rem.s (Rem.s (Rem.s (Rem.s (Rem.s Rem.z))))))) | apply Rems.s (Rem.s (Rem.s (Rem.s (Rem.s (Rem.s (Rem.s (Rem.s (Rem.s Rem.z)))))))) | apply Rems.s (Rem.s (Rem.s (Rem.s (Rem.s (Rem.s (Rem.s (Rem.s (Rem.s (Rem.s Rem.z))))))))))) ?_
            refine tree_step ?_
            refine ta_go [(20, _)] [20] rfl ⟨rfl, trivial⟩ rfl (by kernel_rfl) (fun F => ?_) ?_
            ·
              refine r_convW ⟨_, un_23⟩ un_36 rfl rfl rfl (fun z21 hz21 => ?_)
              refine tree_end rfl (by repeat (first | exact .z | apply Rems.s Rem.z | apply Rems.s (Rem.s Rem.z) | apply Rems.s (Rem.s (Rem.s Rem.z)) | apply Rems.s (Rem.s (Rem.s (Rem.s Rem.z))) | apply Rems.s (Rem.s (Rem.s (Rem.s (Rem.s Rem.z)))) | apply Rems.s (Rem.s (Rem.s (Rem.s (Rem.s (Rem.s Rem.z))))) | apply Rems.s (Rem.s (Rem.s (Rem.s (Rem.s (Rem.s (Rem.s Rem.z)))))) | apply Rems.s (Rem.s (Rem.s (Rem.s (Rem.s (Rem.s (Rem.s (Rem.s Rem.z))))))) | apply Rems.s (Rem.s (Rem.s (Rem.s (Rem.s (Rem.s (Rem.s (Rem.s (Rem.s Rem.z)))))))) | apply Rems.s (Rem.s (Rem.s (Rem.s (Rem.s (Rem.s (Rem.s (Rem.s (Rem.s (Rem.s Rem.z))))))))))) ?_
              refine tree_step ?_
              refine ta_done rfl ?_
              refine ta_done rfl ?_
              refine ta_go [] [] rfl trivial rfl (by kernel_rfl) (fun F => ?_) ?_
              ·
                refine r_callV cb_24 rfl rfl rfl rfl rfl (sameFloat_W _ _ _ (by assumption) (by assumption)) (by repeat (first | exact .z | refine .s (.h .z) ?_ | refine .s (.h (.s .z)) ?_ | refine .s (.h (.s (.s .z))) ?_ | refine .s (.h (.s (.s (.s .z)))) ?_ | refine .s (.h (.s (.s (.s (.s .z))))) ?_ | refine .s (.h (.s (.s (.s (.s (.s .z)))))) ?_ | refine .s (.h (.s (.s (.s (.s (.s (.s .z))))))) ?_ | refine .s (.h (.s (.s (.s (.s (.s (.s (.s .z)))))))) ?_ | refine .s (.h (.s (.s (.s (.s (.s (.s (.s (.s .z))))))))) ?_ | refine .s (.x .z) ?_ | refine .s (.x (.s .z)) ?_ | refine .s (.x (.s (.s .z))) ?_ | refine .s (.x (.s (.s (.s .z)))) ?_ | refine .s (.x (.s (.s (.s (.s .z))))) ?_ | refine .s (.x (.s (.s (.s (.s (.s .z)))))) ?_ | refine .s (.x (.s (.s (.s (.s (.s (.s .z))))))) ?_)) ?_
                refine tree_end rfl (by repeat (first | exact .z | apply Rems.s Rem.z | apply Rems.s (Rem.s Rem.z) | apply Rems.s (Rem.s (Rem.s Rem.z)) | apply Rems.s (Rem.s (Rem.s (Rem.s Rem.z))) | apply Rems.s (Rem.s (Rem.s (Rem.s (Rem.s Rem.z)))) | apply Rems.s (Rem.s (Rem.s (Rem.s (Rem.s (Rem.s Rem.z))))) | apply Rems.s (Rem.s (Rem.s (Rem.s (Rem.s (Rem.s (Rem.s Rem.z)))))) | apply Rems.s (Rem.s (Rem.s (Rem.s (Rem.s (Rem.s (Rem.s (Rem.s Rem.z))))))) | apply Rems.s (Rem.s (Rem.s (Rem.s (Rem.s (Rem.s (Rem.s (Rem.s (Rem.s Rem.z)))))))) | apply Rems.s (Rem.s (Rem.s (Rem.s (Rem.s (Rem.s (Rem.s (Rem.s (Rem.s (Rem.s Rem.z))))))))))) ?_
                refine tree_step ?_
                refine ta_done rfl ?_
                refine ta_done rfl ?_
                refine ta_done rfl ?_
                refine ta_go [] [] rfl trivial rfl (by kernel_rfl) (fun F => ?_) ?_
                ·
                  refine r_not rfl rfl rfl ?_
                  refine tree_end rfl (by repeat (first | exact .z | apply Rems.s Rem.z | apply Rems.s (Rem.s Rem.z) | apply Rems.s (Rem.s (Rem.s Rem.z)) | apply Rems.s (Rem.s (Rem.s (Rem.s Rem.z))) | apply Rems.s (Rem.s (Rem.s (Rem.s (Rem.s Rem.z)))) | apply Rems.s (Rem.s (Rem.s (Rem.s (Rem.s (Rem.s Rem.z))))) | apply Rems.s (Rem.s (Rem.s (Rem.s (Rem.s (Rem.s (Rem.s Rem.z)))))) | apply Rems.s (Rem.s (Rem.s (Rem.s (Rem.s (Rem.s (Rem.s (Rem.s Rem.z))))))) | apply Rems.s (Rem.s (Rem.s (Rem.s (Rem.s (Rem.s (Rem.s (Rem.s (Rem.s Rem.z)))))))) | apply Rems.s (Rem.s (Rem.s (Rem.s (Rem.s (Rem.s (Rem.s (Rem.s (Rem.s (Rem.s Rem.z))))))))))) ?_
                  refine tree_zero ?_
                  refine K_tn ?_
                  refine K_cond_f rfl ?_
                  refine K_skip ?_
                  refine K_bn ?_
                  refine K_tn ?_
                  refine R_region ?_
                  refine r_move rfl rfl rfl ?_
                  first | refine r_addN rfl rfl rfl rfl (i64K (by omega) (by omega)) ?_ | refine r_add rfl rfl rfl rfl (i64K (by omega) (by omega)) ?_
                  refine r_assign rfl rfl rfl ?_
                  refine R_nil ?_
                  refine K_tn ?_
                  exact K_again (k + 1) (by omega) (by omega) (by repeat (first | exact trivial | refine ⟨rfl, ?_⟩)) (by repeat (first | exact .z | apply Rems.s Rem.z | apply Rems.s (Rem.s Rem.z) | apply Rems.s (Rem.s (Rem.s Rem.z)) | apply Rems.s (Rem.s (Rem.s (Rem.s Rem.z))) | apply Rems.s (Rem.s (Rem.s (Rem.s (Rem.s Rem.z)))) | apply Rems.s (Rem.s (Rem.s (Rem.s (Rem.s (Rem.s Rem.z))))) | apply Rems.s (Rem.s (Rem.s (Rem.s (Rem.s (Rem.s (Rem.s Rem.z)))))) | apply Rems.s (Rem.s (Rem.s (Rem.s (Rem.s (Rem.s (Rem.s (Rem.s Rem.z))))))) | apply Rems.s (Rem.s (Rem.s (Rem.s (Rem.s (Rem.s (Rem.s (Rem.s (Rem.s Rem.z)))))))) | apply Rems.s (Rem.s (Rem.s (Rem.s (Rem.s (Rem.s (Rem.s (Rem.s (Rem.s (Rem.s Rem.z)))))))))))
                exact ta_nil
              refine ta_wait (by kernel_rfl) ?_
              exact ta_nil
            refine ta_done rfl ?_
            refine ta_wait (by kernel_rfl) ?_
            refine ta_wait (by kernel_rfl) ?_
            exact ta_nil
          refine ta_wait (by kernel_rfl) ?_
          refine ta_wait (by kernel_rfl) ?_
          exact ta_nil
      · first
        | (exfalso; omega)
        |
          refine R_nil ?_
          refine K_tn ?_
          refine K_cond_f rfl ?_
          refine K_exit ?_
          refine K_te ?_
          refine K_te ?_
          refine K_be ?_
          refine K_tn ?_
          refine K_seq ?_
          refine R_region ?_
          refine r_assign rfl rfl rfl ?_
          refine R_nil ?_
          refine K_tn ?_
          refine K_ret ?_
          refine K_done (H' := []) rfl rfl (.s (.tmp rfl) .z) (by repeat (first | exact .z | apply Rems.s Rem.z | apply Rems.s (Rem.s Rem.z) | apply Rems.s (Rem.s (Rem.s Rem.z)) | apply Rems.s (Rem.s (Rem.s (Rem.s Rem.z))) | apply Rems.s (Rem.s (Rem.s (Rem.s (Rem.s Rem.z)))) | apply Rems.s (Rem.s (Rem.s (Rem.s (Rem.s (Rem.s Rem.z))))) | apply Rems.s (Rem.s (Rem.s (Rem.s (Rem.s (Rem.s (Rem.s Rem.z)))))) | apply Rems.s (Rem.s (Rem.s (Rem.s (Rem.s (Rem.s (Rem.s (Rem.s Rem.z))))))) | apply Rems.s (Rem.s (Rem.s (Rem.s (Rem.s (Rem.s (Rem.s (Rem.s (Rem.s Rem.z)))))))) | apply Rems.s (Rem.s (Rem.s (Rem.s (Rem.s (Rem.s (Rem.s (Rem.s (Rem.s (Rem.s Rem.z))))))))))) ?_
          refine ⟨?_, rfl⟩
          rfl

set_option maxRecDepth 20000 in
theorem spec_BC_ok (n : Nat) (rs : List Nat) (hl : rs.length = 16) (hn : n ≤ 16) (m : Nat) (fs : List Nat) (hf : fs.length = 16) (hm : m ≤ 16) (g lo hi : Nat) (b len cap : Nat) (junk : List Value) (u : TypeId) (es : List Nat) (he : es.length = len) (hcap : len + junk.length = cap) (hb : len ≤ 1048576) (hok : bcCode n rs g m fs es lo hi = 0) : SpecV Try.prog 54 [.agg (.int .i8 (n : Int) :: fl .f32 rs).toArray, .float .f32 g, .agg (.int .i8 (m : Int) :: fl .f32 fs).toArray, .slice (some ⟨b, 0, none⟩) len cap, .float .f32 lo, .float .f32 hi] [(b, .cells (fl .f32 es ++ junk).toArray u (0, 0))] (packV [.int .i64 (bcRes n rs g m fs es lo hi).1, .int .i64 (bcRes n rs g m fs es lo hi).2, .int .i64 (bcCode n rs g m fs es lo hi)]) := by
  refine spec_of Try.func54 rfl Try.ntmps54 rfl (fun w0 => ?_)
  have hn2 : -128 ≤ (n : Int) ∧ (n : Int) ≤ 127 := by omega
  have hm2 : -128 ≤ (m : Int) ∧ (m : Int) ≤ 127 := by omega
  obtain ⟨hc0, hl0, hl8⟩ := bc_ok hok
  obtain ⟨hlh, hvm, hv, hg, hpl, hph, hpc⟩ := bc_all hc0
  have hcmp := part_cmp hpl hph
  refine K_seq ?_
  refine R_region ?_
  refine r_box rfl rfl rfl rfl (fun b6 => ?_)
  refine r_box rfl rfl rfl rfl (fun b8 => ?_)
  refine r_assign rfl rfl rfl ?_
  refine r_assign rfl rfl rfl ?_
  refine r_assign rfl rfl rfl ?_
  refine R_nil ?_
  refine K_tn ?_
  refine K_seq ?_
  refine R_region ?_
  refine r_move rfl rfl rfl ?_
  refine r_move rfl rfl rfl ?_
  refine r_move rfl rfl rfl ?_
  refine r_buildSlice sl_47 sz_23 zr_23 rfl rfl rfl rfl rfl (by first | rfl) (fun b26 => ?_)
  refine r_move rfl rfl rfl ?_
  refine r_append (xs := [.float .f32 g, .float .f32 lo, .float .f32 hi]) (junk := []) (ys := fl .f32 es) sl_47 sl_47 sz_23 zr_23 rfl by_23 rfl rfl rfl rfl rfl (.s (by first | exact .h .z | exact .h (.s .z) | exact .h (.s (.s .z)) | exact .h (.s (.s (.s .z))) | exact .h (.s (.s (.s (.s .z)))) | exact .h (.s (.s (.s (.s (.s .z))))) | exact .h (.s (.s (.s (.s (.s (.s .z)))))) | exact .h (.s (.s (.s (.s (.s (.s (.s .z))))))) | exact .h (.s (.s (.s (.s (.s (.s (.s (.s .z)))))))) | exact .x .z | exact .x (.s .z) | exact .x (.s (.s .z)) | exact .x (.s (.s (.s .z))) | exact .x (.s (.s (.s (.s .z)))) | exact .x (.s (.s (.s (.s (.s .z))))) | exact .x (.s (.s (.s (.s (.s (.s .z))))))) (takeF2 he)) (by first | exact .z | exact (.s .z) | exact (.s (.s .z)) | exact (.s (.s (.s .z))) | exact (.s (.s (.s (.s .z)))) | exact (.s (.s (.s (.s (.s .z))))) | exact (.s (.s (.s (.s (.s (.s .z)))))) | exact (.s (.s (.s (.s (.s (.s (.s .z))))))) | exact (.s (.s (.s (.s (.s (.s (.s (.s .z)))))))) | exact (.s (.s (.s (.s (.s (.s (.s (.s (.s .z)))))))))) rfl rfl (fl_one _ _) (by omega) (fun b28 cap28 junk28 u28 hj28 hc28 => ?_)
  refine r_assign rfl rfl rfl ?_
  refine R_nil ?_
  refine K_tn ?_
  refine K_seq ?_
  refine R_region ?_
  refine r_move rfl rfl rfl ?_
  refine r_move rfl rfl rfl ?_
  refine r_move rfl rfl rfl ?_
  refine v_fcmp rfl rfl rfl rfl (fun _ _ => run_fle) ?_
  refine r_callV cb_82 rfl rfl rfl rfl rfl (l04Crate _ n rs hl (by first | assumption | omega) _ _ _ m fs hf (by first | assumption | omega) _ _ _ _ _ _ _ _ _ (g :: lo :: hi :: es) (by simp; omega) (fun i hi2 => show (fl .f32 (g :: lo :: hi :: es) ++ junk28)[0 + i * 1]? = _ from gF (by simp; omega)) (fle lo hi) (by omega)) (by repeat (first | exact .z | refine .s (.h .z) ?_ | refine .s (.h (.s .z)) ?_ | refine .s (.h (.s (.s .z))) ?_ | refine .s (.h (.s (.s (.s .z)))) ?_ | refine .s (.h (.s (.s (.s (.s .z))))) ?_ | refine .s (.h (.s (.s (.s (.s (.s .z)))))) ?_ | refine .s (.h (.s (.s (.s (.s (.s (.s .z))))))) ?_ | refine .s (.h (.s (.s (.s (.s (.s (.s (.s .z)))))))) ?_ | refine .s (.h (.s (.s (.s (.s (.s (.s (.s (.s .z))))))))) ?_ | refine .s (.x .z) ?_ | refine .s (.x (.s .z)) ?_ | refine .s (.x (.s (.s .z))) ?_ | refine .s (.x (.s (.s (.s .z)))) ?_ | refine .s (.x (.s (.s (.s (.s .z))))) ?_ | refine .s (.x (.s (.s (.s (.s (.s .z)))))) ?_ | refine .s (.x (.s (.s (.s (.s (.s (.s .z))))))) ?_)) ?_
  refine r_assign rfl rfl rfl ?_
  refine R_nil ?_
  refine K_tn ?_
  refine K_seq ?_
  refine K_seq ?_
  refine R_region ?_
  refine r_move rfl rfl rfl ?_
  refine s_eql rfl rfl rfl rfl (fun h35 => ?_) (fun h35 => ?_)
  · first
    | (exfalso; first | omega | (simp_all; done) | (simp_all; omega))
    |
      refine r_move rfl rfl rfl ?_
      refine r_move rfl rfl rfl ?_
      refine r_lenS sl_47 rfl rfl rfl ?_
      refine s_gtr rfl rfl rfl rfl (fun h39 => ?_) (fun h39 => ?_)
      · first
        | (exfalso; first | omega | (simp_all; done) | (simp_all; omega))
        |
          refine r_pick_t rfl rfl rfl rfl ?_
          refine R_nil ?_
          refine K_tn ?_
          refine K_cond_t rfl ?_
          refine R_region ?_
          refine r_assign rfl rfl rfl ?_
          refine R_nil ?_
          refine K_tn ?_
          refine K_seq ?_
          refine K_seq ?_
          refine R_region ?_
          refine r_move rfl rfl rfl ?_
          refine s_eql rfl rfl rfl rfl (fun h42 => ?_) (fun h42 => ?_)
          · first
            | (exfalso; first | omega | (simp_all; done) | (simp_all; omega))
            |
              refine r_move rfl rfl rfl ?_
              refine r_move rfl rfl rfl ?_
              refine r_lenS sl_47 rfl rfl rfl ?_
              refine s_eql rfl rfl rfl rfl (fun h46 => ?_) (fun h46 => ?_)
              · first
                | (exfalso; first | omega | (simp_all; done) | (simp_all; omega))
                |
                  refine r_pick_t rfl rfl rfl rfl ?_
                  refine R_nil ?_
                  refine K_tn ?_
                  refine K_cond_t rfl ?_
                  refine R_region ?_
                  refine r_assign rfl rfl rfl ?_
                  refine R_nil ?_
                  refine K_tn ?_
                  refine K_seq ?_
                  refine K_seq ?_
                  refine R_region ?_
                  refine r_move rfl rfl rfl ?_
                  refine s_neq rfl rfl rfl rfl (fun h49 => ?_) (fun h49 => ?_)
                  · first
                    | (exfalso; first | omega | (simp_all; done) | (simp_all; omega))
                    |
                      refine R_nil ?_
                      refine K_tn ?_
                      refine K_cond_t rfl ?_
                      refine K_seq ?_
                      refine R_region ?_
                      refine r_move rfl rfl rfl ?_
                      refine r_assign rfl rfl rfl ?_
                      refine r_assign rfl rfl rfl ?_
                      refine r_assign rfl rfl rfl ?_
                      refine R_nil ?_
                      refine K_tn ?_
                      refine K_ret ?_
                      refine K_tr ?_
                      refine K_done (H' := []) rfl rfl (.s (.tmp rfl) (.s (.tmp rfl) (.s (.tmp rfl) .z))) (by repeat (first | exact .z | apply Rems.s Rem.z | apply Rems.s (Rem.s Rem.z) | apply Rems.s (Rem.s (Rem.s Rem.z)) | apply Rems.s (Rem.s (Rem.s (Rem.s Rem.z))) | apply Rems.s (Rem.s (Rem.s (Rem.s (Rem.s Rem.z)))) | apply Rems.s (Rem.s (Rem.s (Rem.s (Rem.s (Rem.s Rem.z))))) | apply Rems.s (Rem.s (Rem.s (Rem.s (Rem.s (Rem.s (Rem.s Rem.z)))))) | apply Rems.s (Rem.s (Rem.s (Rem.s (Rem.s (Rem.s (Rem.s (Rem.s Rem.z))))))) | apply Rems.s (Rem.s (Rem.s (Rem.s (Rem.s (Rem.s (Rem.s (Rem.s (Rem.s Rem.z)))))))) | apply Rems.s (Rem.s (Rem.s (Rem.s (Rem.s (Rem.s (Rem.s (Rem.s (Rem.s (Rem.s Rem.z))))))))))) ?_
                      refine ⟨?_, rfl⟩
                      rw [hok, show bcRes n rs g m fs es lo hi = bestB (fineC n rs g m fs lo hi es) es.length by unfold bcRes; rw [if_pos hok]; simp, he] <;> rfl
                  · first
                    | (exfalso; first | omega | (simp_all; done) | (simp_all; omega))
                    |
                      refine R_nil ?_
                      refine K_tn ?_
                      refine K_cond_f rfl ?_
                      refine K_skip ?_
                      refine K_tn ?_
                      refine K_seq ?_
                      refine R_region ?_
                      refine r_assign rfl rfl rfl ?_
                      refine R_nil ?_
                      refine K_tn ?_
                      refine K_seq ?_
                      refine R_region ?_
                      refine r_assign rfl rfl rfl ?_
                      refine R_nil ?_
                      refine K_tn ?_
                      refine K_seq ?_
                      refine K_seq ?_
                      refine R_region ?_
                      refine r_assign rfl rfl rfl ?_
                      refine R_nil ?_
                      refine K_tn ?_
                      refine K_block ?_
                      refine K_loop (fun (k : Nat) => k ≤ len) (fun k => [(1, .float .f32 g), (3, .slice (some ⟨b, 0, none⟩) len cap), (4, .float .f32 lo), (5, .float .f32 hi), (6, .pointer (some ⟨b6, 0, none⟩)), (8, .pointer (some ⟨b8, 0, none⟩)), (17, .int .i64 (bestB (fineC n rs g m fs lo hi es) k).1), (18, .int .i64 (bestB (fineC n rs g m fs lo hi es) k).2), (19, .int .i64 (k : Int))]) (fun _ => [(b6, .cells (.int .i8 (n : Int) :: fl .f32 rs).toArray 28 (0, 0)), (b8, .cells (.int .i8 (m : Int) :: fl .f32 fs).toArray 54 (0, 0))]) (fun k => len - k) 0 (by omega) (by repeat (first | exact trivial | refine ⟨rfl, ?_⟩)) (by repeat (first | exact .z | apply Rems.s Rem.z | apply Rems.s (Rem.s Rem.z) | apply Rems.s (Rem.s (Rem.s Rem.z)) | apply Rems.s (Rem.s (Rem.s (Rem.s Rem.z))) | apply Rems.s (Rem.s (Rem.s (Rem.s (Rem.s Rem.z)))) | apply Rems.s (Rem.s (Rem.s (Rem.s (Rem.s (Rem.s Rem.z))))) | apply Rems.s (Rem.s (Rem.s (Rem.s (Rem.s (Rem.s (Rem.s Rem.z)))))) | apply Rems.s (Rem.s (Rem.s (Rem.s (Rem.s (Rem.s (Rem.s (Rem.s Rem.z))))))) | apply Rems.s (Rem.s (Rem.s (Rem.s (Rem.s (Rem.s (Rem.s (Rem.s (Rem.s Rem.z)))))))) | apply Rems.s (Rem.s (Rem.s (Rem.s (Rem.s (Rem.s (Rem.s (Rem.s (Rem.s (Rem.s Rem.z))))))))))) (fun k hp => ?_)
                      refine K_seq ?_
                      refine K_seq ?_
                      refine R_region ?_
                      refine r_move rfl rfl rfl ?_
                      refine r_move rfl rfl rfl ?_
                      refine r_lenS sl_47 rfl rfl rfl ?_
                      refine s_lss rfl rfl rfl rfl (fun h54 => ?_) (fun h54 => ?_)
                      · first
                        | (exfalso; first | omega | (simp_all; done) | (simp_all; omega))
                        |
                          refine R_nil ?_
                          refine K_tn ?_
                          refine K_cond_t rfl ?_
                          refine K_skip ?_
                          refine K_tn ?_
                          refine K_seq ?_
                          refine K_block ?_
                          refine K_seq ?_
                          refine R_region ?_
                          have hle1 := filterI_le m (isEarly (arrF n rs (es.getD k 0) g) fs hi)
                          have hle2 := filterI_le m (isLate (arrF n rs (es.getD k 0) g) fs lo)
                          have hck := hpc k (by omega)
                          have hokk := okC_mk (rs := rs) hvm hv hck hg hpl hph
                          refine r_move rfl rfl rfl ?_
                          refine r_move rfl rfl rfl ?_
                          refine r_indexS sl_47 sz_23 rfl rfl rfl rfl (by omega) ?_
                          refine r_load ag_23 rfl rfl rfl (by first | exact .h .z | exact .h (.s .z) | exact .h (.s (.s .z)) | exact .h (.s (.s (.s .z))) | exact .h (.s (.s (.s (.s .z)))) | exact .h (.s (.s (.s (.s (.s .z))))) | exact .h (.s (.s (.s (.s (.s (.s .z)))))) | exact .h (.s (.s (.s (.s (.s (.s (.s .z))))))) | exact .h (.s (.s (.s (.s (.s (.s (.s (.s .z)))))))) | exact .x .z | exact .x (.s .z) | exact .x (.s (.s .z)) | exact .x (.s (.s (.s .z))) | exact .x (.s (.s (.s (.s .z)))) | exact .x (.s (.s (.s (.s (.s .z))))) | exact .x (.s (.s (.s (.s (.s (.s .z))))))) (by first | rfl | exact gC (by omega) | exact takeC (by omega) | exact takeC0 (by omega) | exact gF (by omega)) ?_
                          refine r_move rfl rfl rfl ?_
                          refine r_move rfl rfl rfl ?_
                          refine r_move rfl rfl rfl ?_
                          refine r_callR cb_85 rfl rfl rfl rfl rfl (l04Sorted _ n rs hl hn _ _ _ m fs hf hm _ _ (es.getD k 0) g lo hi hv hck hg hvm) (by repeat (first | exact .z | refine .s (.h .z) ?_ | refine .s (.h (.s .z)) ?_ | refine .s (.h (.s (.s .z))) ?_ | refine .s (.h (.s (.s (.s .z)))) ?_ | refine .s (.h (.s (.s (.s (.s .z))))) ?_ | refine .s (.h (.s (.s (.s (.s (.s .z)))))) ?_ | refine .s (.h (.s (.s (.s (.s (.s (.s .z))))))) ?_ | refine .s (.h (.s (.s (.s (.s (.s (.s (.s .z)))))))) ?_ | refine .s (.h (.s (.s (.s (.s (.s (.s (.s (.s .z))))))))) ?_ | refine .s (.x .z) ?_ | refine .s (.x (.s .z)) ?_ | refine .s (.x (.s (.s .z))) ?_ | refine .s (.x (.s (.s (.s .z)))) ?_ | refine .s (.x (.s (.s (.s (.s .z))))) ?_ | refine .s (.x (.s (.s (.s (.s (.s .z)))))) ?_ | refine .s (.x (.s (.s (.s (.s (.s (.s .z))))))) ?_)) ?_
                          rintro _ _ ⟨p, q, rfl, hq1, hq2, rfl⟩
                          refine r_move rfl rfl rfl ?_
                          refine r_extract rfl rfl rfl rfl ?_
                          refine r_extract rfl rfl rfl rfl ?_
                          refine r_assign rfl rfl rfl ?_
                          refine r_assign rfl rfl rfl ?_
                          refine R_nil ?_
                          refine K_tn ?_
                          refine K_seq ?_
                          refine R_region ?_
                          refine r_fieldAddr fd_54_0 rfl rfl rfl ?_
                          refine r_load ag_22 rfl rfl rfl (by first | exact .h .z | exact .h (.s .z) | exact .h (.s (.s .z)) | exact .h (.s (.s (.s .z))) | exact .h (.s (.s (.s (.s .z)))) | exact .h (.s (.s (.s (.s (.s .z))))) | exact .h (.s (.s (.s (.s (.s (.s .z)))))) | exact .h (.s (.s (.s (.s (.s (.s (.s .z))))))) | exact .h (.s (.s (.s (.s (.s (.s (.s (.s .z)))))))) | exact .x .z | exact .x (.s .z) | exact .x (.s (.s .z)) | exact .x (.s (.s (.s .z))) | exact .x (.s (.s (.s (.s .z)))) | exact .x (.s (.s (.s (.s (.s .z))))) | exact .x (.s (.s (.s (.s (.s (.s .z))))))) (by first | rfl | exact gC (by omega) | exact takeC (by omega) | exact takeC0 (by omega) | exact gF (by omega)) ?_
                          refine r_convI ⟨_, un_22⟩ un_2 rfl rfl rfl (i64K (by omega) (by omega)) ?_
                          refine r_move rfl rfl rfl ?_
                          refine r_lenS sl_60 rfl rfl rfl ?_
                          refine r_sub rfl rfl rfl rfl (i64K (by omega) (by omega)) ?_
                          refine r_move rfl rfl rfl ?_
                          refine r_lenS sl_60 rfl rfl rfl ?_
                          refine r_sub rfl rfl rfl rfl (i64K (by omega) (by omega)) ?_
                          refine r_assign rfl rfl rfl ?_
                          refine R_nil ?_
                          refine K_tn ?_
                          refine K_seq ?_
                          refine R_region ?_
                          refine r_move rfl rfl rfl ?_
                          refine r_move rfl rfl rfl ?_
                          refine s_gtr rfl rfl rfl rfl (fun h79 => ?_) (fun h79 => ?_)
                          · first
                            | (exfalso; first | omega | (simp_all; done) | (simp_all; omega))
                            |
                              refine R_nil ?_
                              refine K_tn ?_
                              refine K_cond_t rfl ?_
                              refine K_seq ?_
                              refine R_region ?_
                              refine r_move rfl rfl rfl ?_
                              refine r_assign rfl rfl rfl ?_
                              refine R_nil ?_
                              refine K_tn ?_
                              refine R_region ?_
                              refine r_move rfl rfl rfl ?_
                              refine r_assign rfl rfl rfl ?_
                              refine R_nil ?_
                              refine K_bn ?_
                              refine K_tn ?_
                              refine R_region ?_
                              refine r_move rfl rfl rfl ?_
                              first | refine r_addN rfl rfl rfl rfl (i64K (by omega) (by omega)) ?_ | refine r_add rfl rfl rfl rfl (i64K (by omega) (by omega)) ?_
                              refine r_assign rfl rfl rfl ?_
                              refine R_nil ?_
                              refine K_tn ?_
                              exact K_again (k + 1) (by omega) (by omega) (by repeat (first | exact trivial | refine ⟨rfl, ?_⟩ | refine ⟨congrArg (fun t : Int × Int => some (Value.int .i64 t.1)) (bestB_t (sc := (fineC n rs g m fs lo hi es)) h79).symm, ?_⟩ | refine ⟨congrArg (fun t : Int × Int => some (Value.int .i64 t.1)) (bestB_f (sc := (fineC n rs g m fs lo hi es)) h79).symm, ?_⟩ | refine ⟨congrArg (fun t : Int × Int => some (Value.int .i64 t.2)) (bestB_t (sc := (fineC n rs g m fs lo hi es)) h79).symm, ?_⟩ | refine ⟨congrArg (fun t : Int × Int => some (Value.int .i64 t.2)) (bestB_f (sc := (fineC n rs g m fs lo hi es)) h79).symm, ?_⟩)) (by repeat (first | exact .z | apply Rems.s Rem.z | apply Rems.s (Rem.s Rem.z) | apply Rems.s (Rem.s (Rem.s Rem.z)) | apply Rems.s (Rem.s (Rem.s (Rem.s Rem.z))) | apply Rems.s (Rem.s (Rem.s (Rem.s (Rem.s Rem.z)))) | apply Rems.s (Rem.s (Rem.s (Rem.s (Rem.s (Rem.s Rem.z))))) | apply Rems.s (Rem.s (Rem.s (Rem.s (Rem.s (Rem.s (Rem.s Rem.z)))))) | apply Rems.s (Rem.s (Rem.s (Rem.s (Rem.s (Rem.s (Rem.s (Rem.s Rem.z))))))) | apply Rems.s (Rem.s (Rem.s (Rem.s (Rem.s (Rem.s (Rem.s (Rem.s (Rem.s Rem.z)))))))) | apply Rems.s (Rem.s (Rem.s (Rem.s (Rem.s (Rem.s (Rem.s (Rem.s (Rem.s (Rem.s Rem.z)))))))))))
                          · first
                            | (exfalso; first | omega | (simp_all; done) | (simp_all; omega))
                            |
                              refine R_nil ?_
                              refine K_tn ?_
                              refine K_cond_f rfl ?_
                              refine K_skip ?_
                              refine K_bn ?_
                              refine K_tn ?_
                              refine R_region ?_
                              refine r_move rfl rfl rfl ?_
                              first | refine r_addN rfl rfl rfl rfl (i64K (by omega) (by omega)) ?_ | refine r_add rfl rfl rfl rfl (i64K (by omega) (by omega)) ?_
                              refine r_assign rfl rfl rfl ?_
                              refine R_nil ?_
                              refine K_tn ?_
                              exact K_again (k + 1) (by omega) (by omega) (by repeat (first | exact trivial | refine ⟨rfl, ?_⟩ | refine ⟨congrArg (fun t : Int × Int => some (Value.int .i64 t.1)) (bestB_t (sc := (fineC n rs g m fs lo hi es)) h79).symm, ?_⟩ | refine ⟨congrArg (fun t : Int × Int => some (Value.int .i64 t.1)) (bestB_f (sc := (fineC n rs g m fs lo hi es)) h79).symm, ?_⟩ | refine ⟨congrArg (fun t : Int × Int => some (Value.int .i64 t.2)) (bestB_t (sc := (fineC n rs g m fs lo hi es)) h79).symm, ?_⟩ | refine ⟨congrArg (fun t : Int × Int => some (Value.int .i64 t.2)) (bestB_f (sc := (fineC n rs g m fs lo hi es)) h79).symm, ?_⟩)) (by repeat (first | exact .z | apply Rems.s Rem.z | apply Rems.s (Rem.s Rem.z) | apply Rems.s (Rem.s (Rem.s Rem.z)) | apply Rems.s (Rem.s (Rem.s (Rem.s Rem.z))) | apply Rems.s (Rem.s (Rem.s (Rem.s (Rem.s Rem.z)))) | apply Rems.s (Rem.s (Rem.s (Rem.s (Rem.s (Rem.s Rem.z))))) | apply Rems.s (Rem.s (Rem.s (Rem.s (Rem.s (Rem.s (Rem.s Rem.z)))))) | apply Rems.s (Rem.s (Rem.s (Rem.s (Rem.s (Rem.s (Rem.s (Rem.s Rem.z))))))) | apply Rems.s (Rem.s (Rem.s (Rem.s (Rem.s (Rem.s (Rem.s (Rem.s (Rem.s Rem.z)))))))) | apply Rems.s (Rem.s (Rem.s (Rem.s (Rem.s (Rem.s (Rem.s (Rem.s (Rem.s (Rem.s Rem.z)))))))))))
                      · first
                        | (exfalso; first | omega | (simp_all; done) | (simp_all; omega))
                        |
                          refine R_nil ?_
                          refine K_tn ?_
                          refine K_cond_f rfl ?_
                          refine K_exit ?_
                          refine K_te ?_
                          refine K_te ?_
                          refine K_be ?_
                          refine K_tn ?_
                          refine K_seq ?_
                          refine R_region ?_
                          have hkn : k = len := by omega
                          subst hkn
                          refine r_move rfl rfl rfl ?_
                          refine r_move rfl rfl rfl ?_
                          refine r_assign rfl rfl rfl ?_
                          refine r_assign rfl rfl rfl ?_
                          refine r_assign rfl rfl rfl ?_
                          refine R_nil ?_
                          refine K_tn ?_
                          refine K_ret ?_
                          refine K_done (H' := []) rfl rfl (.s (.tmp rfl) (.s (.tmp rfl) (.s (.tmp rfl) .z))) (by repeat (first | exact .z | apply Rems.s Rem.z | apply Rems.s (Rem.s Rem.z) | apply Rems.s (Rem.s (Rem.s Rem.z)) | apply Rems.s (Rem.s (Rem.s (Rem.s Rem.z))) | apply Rems.s (Rem.s (Rem.s (Rem.s (Rem.s Rem.z)))) | apply Rems.s (Rem.s (Rem.s (Rem.s (Rem.s (Rem.s Rem.z))))) | apply Rems.s (Rem.s (Rem.s (Rem.s (Rem.s (Rem.s (Rem.s Rem.z)))))) | apply Rems.s (Rem.s (Rem.s (Rem.s (Rem.s (Rem.s (Rem.s (Rem.s Rem.z))))))) | apply Rems.s (Rem.s (Rem.s (Rem.s (Rem.s (Rem.s (Rem.s (Rem.s (Rem.s Rem.z)))))))) | apply Rems.s (Rem.s (Rem.s (Rem.s (Rem.s (Rem.s (Rem.s (Rem.s (Rem.s (Rem.s Rem.z))))))))))) ?_
                          refine ⟨?_, rfl⟩
                          rw [hok, show bcRes n rs g m fs es lo hi = bestB (fineC n rs g m fs lo hi es) es.length by unfold bcRes; rw [if_pos hok]; simp, he] <;> rfl
              · first
                | (exfalso; first | omega | (simp_all; done) | (simp_all; omega))
                |
                  refine r_pick_t rfl rfl rfl rfl ?_
                  refine R_nil ?_
                  refine K_tn ?_
                  refine K_cond_f rfl ?_
                  refine K_skip ?_
                  refine K_tn ?_
                  refine K_seq ?_
                  refine K_seq ?_
                  refine R_region ?_
                  refine r_move rfl rfl rfl ?_
                  refine s_neq rfl rfl rfl rfl (fun h49 => ?_) (fun h49 => ?_)
                  · first
                    | (exfalso; first | omega | (simp_all; done) | (simp_all; omega))
                    |
                      refine R_nil ?_
                      refine K_tn ?_
                      refine K_cond_t rfl ?_
                      refine K_seq ?_
                      refine R_region ?_
                      refine r_move rfl rfl rfl ?_
                      refine r_assign rfl rfl rfl ?_
                      refine r_assign rfl rfl rfl ?_
                      refine r_assign rfl rfl rfl ?_
                      refine R_nil ?_
                      refine K_tn ?_
                      refine K_ret ?_
                      refine K_tr ?_
                      refine K_done (H' := []) rfl rfl (.s (.tmp rfl) (.s (.tmp rfl) (.s (.tmp rfl) .z))) (by repeat (first | exact .z | apply Rems.s Rem.z | apply Rems.s (Rem.s Rem.z) | apply Rems.s (Rem.s (Rem.s Rem.z)) | apply Rems.s (Rem.s (Rem.s (Rem.s Rem.z))) | apply Rems.s (Rem.s (Rem.s (Rem.s (Rem.s Rem.z)))) | apply Rems.s (Rem.s (Rem.s (Rem.s (Rem.s (Rem.s Rem.z))))) | apply Rems.s (Rem.s (Rem.s (Rem.s (Rem.s (Rem.s (Rem.s Rem.z)))))) | apply Rems.s (Rem.s (Rem.s (Rem.s (Rem.s (Rem.s (Rem.s (Rem.s Rem.z))))))) | apply Rems.s (Rem.s (Rem.s (Rem.s (Rem.s (Rem.s (Rem.s (Rem.s (Rem.s Rem.z)))))))) | apply Rems.s (Rem.s (Rem.s (Rem.s (Rem.s (Rem.s (Rem.s (Rem.s (Rem.s (Rem.s Rem.z))))))))))) ?_
                      refine ⟨?_, rfl⟩
                      rw [hok, show bcRes n rs g m fs es lo hi = bestB (fineC n rs g m fs lo hi es) es.length by unfold bcRes; rw [if_pos hok]; simp, he] <;> rfl
                  · first
                    | (exfalso; first | omega | (simp_all; done) | (simp_all; omega))
                    |
                      refine R_nil ?_
                      refine K_tn ?_
                      refine K_cond_f rfl ?_
                      refine K_skip ?_
                      refine K_tn ?_
                      refine K_seq ?_
                      refine R_region ?_
                      refine r_assign rfl rfl rfl ?_
                      refine R_nil ?_
                      refine K_tn ?_
                      refine K_seq ?_
                      refine R_region ?_
                      refine r_assign rfl rfl rfl ?_
                      refine R_nil ?_
                      refine K_tn ?_
                      refine K_seq ?_
                      refine K_seq ?_
                      refine R_region ?_
                      refine r_assign rfl rfl rfl ?_
                      refine R_nil ?_
                      refine K_tn ?_
                      refine K_block ?_
                      refine K_loop (fun (k : Nat) => k ≤ len) (fun k => [(1, .float .f32 g), (3, .slice (some ⟨b, 0, none⟩) len cap), (4, .float .f32 lo), (5, .float .f32 hi), (6, .pointer (some ⟨b6, 0, none⟩)), (8, .pointer (some ⟨b8, 0, none⟩)), (17, .int .i64 (bestB (fineC n rs g m fs lo hi es) k).1), (18, .int .i64 (bestB (fineC n rs g m fs lo hi es) k).2), (19, .int .i64 (k : Int))]) (fun _ => [(b6, .cells (.int .i8 (n : Int) :: fl .f32 rs).toArray 28 (0, 0)), (b8, .cells (.int .i8 (m : Int) :: fl .f32 fs).toArray 54 (0, 0))]) (fun k => len - k) 0 (by omega) (by repeat (first | exact trivial | refine ⟨rfl, ?_⟩)) (by repeat (first | exact .z | apply Rems.s Rem.z | apply Rems.s (Rem.s Rem.z) | apply Rems.s (Rem.s (Rem.s Rem.z)) | apply Rems.s (Rem.s (Rem.s (Rem.s Rem.z))) | apply Rems.s (Rem.s (Rem.s (Rem.s (Rem.s Rem.z)))) | apply Rems.s (Rem.s (Rem.s (Rem.s (Rem.s (Rem.s Rem.z))))) | apply Rems.s (Rem.s (Rem.s (Rem.s (Rem.s (Rem.s (Rem.s Rem.z)))))) | apply Rems.s (Rem.s (Rem.s (Rem.s (Rem.s (Rem.s (Rem.s (Rem.s Rem.z))))))) | apply Rems.s (Rem.s (Rem.s (Rem.s (Rem.s (Rem.s (Rem.s (Rem.s (Rem.s Rem.z)))))))) | apply Rems.s (Rem.s (Rem.s (Rem.s (Rem.s (Rem.s (Rem.s (Rem.s (Rem.s (Rem.s Rem.z))))))))))) (fun k hp => ?_)
                      refine K_seq ?_
                      refine K_seq ?_
                      refine R_region ?_
                      refine r_move rfl rfl rfl ?_
                      refine r_move rfl rfl rfl ?_
                      refine r_lenS sl_47 rfl rfl rfl ?_
                      refine s_lss rfl rfl rfl rfl (fun h54 => ?_) (fun h54 => ?_)
                      · first
                        | (exfalso; first | omega | (simp_all; done) | (simp_all; omega))
                        |
                          refine R_nil ?_
                          refine K_tn ?_
                          refine K_cond_t rfl ?_
                          refine K_skip ?_
                          refine K_tn ?_
                          refine K_seq ?_
                          refine K_block ?_
                          refine K_seq ?_
                          refine R_region ?_
                          have hle1 := filterI_le m (isEarly (arrF n rs (es.getD k 0) g) fs hi)
                          have hle2 := filterI_le m (isLate (arrF n rs (es.getD k 0) g) fs lo)
                          have hck := hpc k (by omega)
                          have hokk := okC_mk (rs := rs) hvm hv hck hg hpl hph
                          refine r_move rfl rfl rfl ?_
                          refine r_move rfl rfl rfl ?_
                          refine r_indexS sl_47 sz_23 rfl rfl rfl rfl (by omega) ?_
                          refine r_load ag_23 rfl rfl rfl (by first | exact .h .z | exact .h (.s .z) | exact .h (.s (.s .z)) | exact .h (.s (.s (.s .z))) | exact .h (.s (.s (.s (.s .z)))) | exact .h (.s (.s (.s (.s (.s .z))))) | exact .h (.s (.s (.s (.s (.s (.s .z)))))) | exact .h (.s (.s (.s (.s (.s (.s (.s .z))))))) | exact .h (.s (.s (.s (.s (.s (.s (.s (.s .z)))))))) | exact .x .z | exact .x (.s .z) | exact .x (.s (.s .z)) | exact .x (.s (.s (.s .z))) | exact .x (.s (.s (.s (.s .z)))) | exact .x (.s (.s (.s (.s (.s .z))))) | exact .x (.s (.s (.s (.s (.s (.s .z))))))) (by first | rfl | exact gC (by omega) | exact takeC (by omega) | exact takeC0 (by omega) | exact gF (by omega)) ?_
                          refine r_move rfl rfl rfl ?_
                          refine r_move rfl rfl rfl ?_
                          refine r_move rfl rfl rfl ?_
                          refine r_callR cb_85 rfl rfl rfl rfl rfl (l04Sorted _ n rs hl hn _ _ _ m fs hf hm _ _ (es.getD k 0) g lo hi hv hck hg hvm) (by repeat (first | exact .z | refine .s (.h .z) ?_ | refine .s (.h (.s .z)) ?_ | refine .s (.h (.s (.s .z))) ?_ | refine .s (.h (.s (.s (.s .z)))) ?_ | refine .s (.h (.s (.s (.s (.s .z))))) ?_ | refine .s (.h (.s (.s (.s (.s (.s .z)))))) ?_ | refine .s (.h (.s (.s (.s (.s (.s (.s .z))))))) ?_ | refine .s (.h (.s (.s (.s (.s (.s (.s (.s .z)))))))) ?_ | refine .s (.h (.s (.s (.s (.s (.s (.s (.s (.s .z))))))))) ?_ | refine .s (.x .z) ?_ | refine .s (.x (.s .z)) ?_ | refine .s (.x (.s (.s .z))) ?_ | refine .s (.x (.s (.s (.s .z)))) ?_ | refine .s (.x (.s (.s (.s (.s .z))))) ?_ | refine .s (.x (.s (.s (.s (.s (.s .z)))))) ?_ | refine .s (.x (.s (.s (.s (.s (.s (.s .z))))))) ?_)) ?_
                          rintro _ _ ⟨p, q, rfl, hq1, hq2, rfl⟩
                          refine r_move rfl rfl rfl ?_
                          refine r_extract rfl rfl rfl rfl ?_
                          refine r_extract rfl rfl rfl rfl ?_
                          refine r_assign rfl rfl rfl ?_
                          refine r_assign rfl rfl rfl ?_
                          refine R_nil ?_
                          refine K_tn ?_
                          refine K_seq ?_
                          refine R_region ?_
                          refine r_fieldAddr fd_54_0 rfl rfl rfl ?_
                          refine r_load ag_22 rfl rfl rfl (by first | exact .h .z | exact .h (.s .z) | exact .h (.s (.s .z)) | exact .h (.s (.s (.s .z))) | exact .h (.s (.s (.s (.s .z)))) | exact .h (.s (.s (.s (.s (.s .z))))) | exact .h (.s (.s (.s (.s (.s (.s .z)))))) | exact .h (.s (.s (.s (.s (.s (.s (.s .z))))))) | exact .h (.s (.s (.s (.s (.s (.s (.s (.s .z)))))))) | exact .x .z | exact .x (.s .z) | exact .x (.s (.s .z)) | exact .x (.s (.s (.s .z))) | exact .x (.s (.s (.s (.s .z)))) | exact .x (.s (.s (.s (.s (.s .z))))) | exact .x (.s (.s (.s (.s (.s (.s .z))))))) (by first | rfl | exact gC (by omega) | exact takeC (by omega) | exact takeC0 (by omega) | exact gF (by omega)) ?_
                          refine r_convI ⟨_, un_22⟩ un_2 rfl rfl rfl (i64K (by omega) (by omega)) ?_
                          refine r_move rfl rfl rfl ?_
                          refine r_lenS sl_60 rfl rfl rfl ?_
                          refine r_sub rfl rfl rfl rfl (i64K (by omega) (by omega)) ?_
                          refine r_move rfl rfl rfl ?_
                          refine r_lenS sl_60 rfl rfl rfl ?_
                          refine r_sub rfl rfl rfl rfl (i64K (by omega) (by omega)) ?_
                          refine r_assign rfl rfl rfl ?_
                          refine R_nil ?_
                          refine K_tn ?_
                          refine K_seq ?_
                          refine R_region ?_
                          refine r_move rfl rfl rfl ?_
                          refine r_move rfl rfl rfl ?_
                          refine s_gtr rfl rfl rfl rfl (fun h79 => ?_) (fun h79 => ?_)
                          · first
                            | (exfalso; first | omega | (simp_all; done) | (simp_all; omega))
                            |
                              refine R_nil ?_
                              refine K_tn ?_
                              refine K_cond_t rfl ?_
                              refine K_seq ?_
                              refine R_region ?_
                              refine r_move rfl rfl rfl ?_
                              refine r_assign rfl rfl rfl ?_
                              refine R_nil ?_
                              refine K_tn ?_
                              refine R_region ?_
                              refine r_move rfl rfl rfl ?_
                              refine r_assign rfl rfl rfl ?_
                              refine R_nil ?_
                              refine K_bn ?_
                              refine K_tn ?_
                              refine R_region ?_
                              refine r_move rfl rfl rfl ?_
                              first | refine r_addN rfl rfl rfl rfl (i64K (by omega) (by omega)) ?_ | refine r_add rfl rfl rfl rfl (i64K (by omega) (by omega)) ?_
                              refine r_assign rfl rfl rfl ?_
                              refine R_nil ?_
                              refine K_tn ?_
                              exact K_again (k + 1) (by omega) (by omega) (by repeat (first | exact trivial | refine ⟨rfl, ?_⟩ | refine ⟨congrArg (fun t : Int × Int => some (Value.int .i64 t.1)) (bestB_t (sc := (fineC n rs g m fs lo hi es)) h79).symm, ?_⟩ | refine ⟨congrArg (fun t : Int × Int => some (Value.int .i64 t.1)) (bestB_f (sc := (fineC n rs g m fs lo hi es)) h79).symm, ?_⟩ | refine ⟨congrArg (fun t : Int × Int => some (Value.int .i64 t.2)) (bestB_t (sc := (fineC n rs g m fs lo hi es)) h79).symm, ?_⟩ | refine ⟨congrArg (fun t : Int × Int => some (Value.int .i64 t.2)) (bestB_f (sc := (fineC n rs g m fs lo hi es)) h79).symm, ?_⟩)) (by repeat (first | exact .z | apply Rems.s Rem.z | apply Rems.s (Rem.s Rem.z) | apply Rems.s (Rem.s (Rem.s Rem.z)) | apply Rems.s (Rem.s (Rem.s (Rem.s Rem.z))) | apply Rems.s (Rem.s (Rem.s (Rem.s (Rem.s Rem.z)))) | apply Rems.s (Rem.s (Rem.s (Rem.s (Rem.s (Rem.s Rem.z))))) | apply Rems.s (Rem.s (Rem.s (Rem.s (Rem.s (Rem.s (Rem.s Rem.z)))))) | apply Rems.s (Rem.s (Rem.s (Rem.s (Rem.s (Rem.s (Rem.s (Rem.s Rem.z))))))) | apply Rems.s (Rem.s (Rem.s (Rem.s (Rem.s (Rem.s (Rem.s (Rem.s (Rem.s Rem.z)))))))) | apply Rems.s (Rem.s (Rem.s (Rem.s (Rem.s (Rem.s (Rem.s (Rem.s (Rem.s (Rem.s Rem.z)))))))))))
                          · first
                            | (exfalso; first | omega | (simp_all; done) | (simp_all; omega))
                            |
                              refine R_nil ?_
                              refine K_tn ?_
                              refine K_cond_f rfl ?_
                              refine K_skip ?_
                              refine K_bn ?_
                              refine K_tn ?_
                              refine R_region ?_
                              refine r_move rfl rfl rfl ?_
                              first | refine r_addN rfl rfl rfl rfl (i64K (by omega) (by omega)) ?_ | refine r_add rfl rfl rfl rfl (i64K (by omega) (by omega)) ?_
                              refine r_assign rfl rfl rfl ?_
                              refine R_nil ?_
                              refine K_tn ?_
                              exact K_again (k + 1) (by omega) (by omega) (by repeat (first | exact trivial | refine ⟨rfl, ?_⟩ | refine ⟨congrArg (fun t : Int × Int => some (Value.int .i64 t.1)) (bestB_t (sc := (fineC n rs g m fs lo hi es)) h79).symm, ?_⟩ | refine ⟨congrArg (fun t : Int × Int => some (Value.int .i64 t.1)) (bestB_f (sc := (fineC n rs g m fs lo hi es)) h79).symm, ?_⟩ | refine ⟨congrArg (fun t : Int × Int => some (Value.int .i64 t.2)) (bestB_t (sc := (fineC n rs g m fs lo hi es)) h79).symm, ?_⟩ | refine ⟨congrArg (fun t : Int × Int => some (Value.int .i64 t.2)) (bestB_f (sc := (fineC n rs g m fs lo hi es)) h79).symm, ?_⟩)) (by repeat (first | exact .z | apply Rems.s Rem.z | apply Rems.s (Rem.s Rem.z) | apply Rems.s (Rem.s (Rem.s Rem.z)) | apply Rems.s (Rem.s (Rem.s (Rem.s Rem.z))) | apply Rems.s (Rem.s (Rem.s (Rem.s (Rem.s Rem.z)))) | apply Rems.s (Rem.s (Rem.s (Rem.s (Rem.s (Rem.s Rem.z))))) | apply Rems.s (Rem.s (Rem.s (Rem.s (Rem.s (Rem.s (Rem.s Rem.z)))))) | apply Rems.s (Rem.s (Rem.s (Rem.s (Rem.s (Rem.s (Rem.s (Rem.s Rem.z))))))) | apply Rems.s (Rem.s (Rem.s (Rem.s (Rem.s (Rem.s (Rem.s (Rem.s (Rem.s Rem.z)))))))) | apply Rems.s (Rem.s (Rem.s (Rem.s (Rem.s (Rem.s (Rem.s (Rem.s (Rem.s (Rem.s Rem.z)))))))))))
                      · first
                        | (exfalso; first | omega | (simp_all; done) | (simp_all; omega))
                        |
                          refine R_nil ?_
                          refine K_tn ?_
                          refine K_cond_f rfl ?_
                          refine K_exit ?_
                          refine K_te ?_
                          refine K_te ?_
                          refine K_be ?_
                          refine K_tn ?_
                          refine K_seq ?_
                          refine R_region ?_
                          have hkn : k = len := by omega
                          subst hkn
                          refine r_move rfl rfl rfl ?_
                          refine r_move rfl rfl rfl ?_
                          refine r_assign rfl rfl rfl ?_
                          refine r_assign rfl rfl rfl ?_
                          refine r_assign rfl rfl rfl ?_
                          refine R_nil ?_
                          refine K_tn ?_
                          refine K_ret ?_
                          refine K_done (H' := []) rfl rfl (.s (.tmp rfl) (.s (.tmp rfl) (.s (.tmp rfl) .z))) (by repeat (first | exact .z | apply Rems.s Rem.z | apply Rems.s (Rem.s Rem.z) | apply Rems.s (Rem.s (Rem.s Rem.z)) | apply Rems.s (Rem.s (Rem.s (Rem.s Rem.z))) | apply Rems.s (Rem.s (Rem.s (Rem.s (Rem.s Rem.z)))) | apply Rems.s (Rem.s (Rem.s (Rem.s (Rem.s (Rem.s Rem.z))))) | apply Rems.s (Rem.s (Rem.s (Rem.s (Rem.s (Rem.s (Rem.s Rem.z)))))) | apply Rems.s (Rem.s (Rem.s (Rem.s (Rem.s (Rem.s (Rem.s (Rem.s Rem.z))))))) | apply Rems.s (Rem.s (Rem.s (Rem.s (Rem.s (Rem.s (Rem.s (Rem.s (Rem.s Rem.z)))))))) | apply Rems.s (Rem.s (Rem.s (Rem.s (Rem.s (Rem.s (Rem.s (Rem.s (Rem.s (Rem.s Rem.z))))))))))) ?_
                          refine ⟨?_, rfl⟩
                          rw [hok, show bcRes n rs g m fs es lo hi = bestB (fineC n rs g m fs lo hi es) es.length by unfold bcRes; rw [if_pos hok]; simp, he] <;> rfl
          · first
            | (exfalso; first | omega | (simp_all; done) | (simp_all; omega))
            |
              refine r_move rfl rfl rfl ?_
              refine r_skip rfl rfl ?_
              refine r_skip rfl rfl ?_
              refine r_skip rfl rfl ?_
              refine r_pick_f rfl rfl rfl rfl ?_
              refine R_nil ?_
              refine K_tn ?_
              refine K_cond_f rfl ?_
              refine K_skip ?_
              refine K_tn ?_
              refine K_seq ?_
              refine K_seq ?_
              refine R_region ?_
              refine r_move rfl rfl rfl ?_
              refine s_neq rfl rfl rfl rfl (fun h49 => ?_) (fun h49 => ?_)
              · first
                | (exfalso; first | omega | (simp_all; done) | (simp_all; omega))
                |
                  refine R_nil ?_
                  refine K_tn ?_
                  refine K_cond_t rfl ?_
                  refine K_seq ?_
                  refine R_region ?_
                  refine r_move rfl rfl rfl ?_
                  refine r_assign rfl rfl rfl ?_
                  refine r_assign rfl rfl rfl ?_
                  refine r_assign rfl rfl rfl ?_
                  refine R_nil ?_
                  refine K_tn ?_
                  refine K_ret ?_
                  refine K_tr ?_
                  refine K_done (H' := []) rfl rfl (.s (.tmp rfl) (.s (.tmp rfl) (.s (.tmp rfl) .z))) (by repeat (first | exact .z | apply Rems.s Rem.z | apply Rems.s (Rem.s Rem.z) | apply Rems.s (Rem.s (Rem.s Rem.z)) | apply Rems.s (Rem.s (Rem.s (Rem.s Rem.z))) | apply Rems.s (Rem.s (Rem.s (Rem.s (Rem.s Rem.z)))) | apply Rems.s (Rem.s (Rem.s (Rem.s (Rem.s (Rem.s Rem.z))))) | apply Rems.s (Rem.s (Rem.s (Rem.s (Rem.s (Rem.s (Rem.s Rem.z)))))) | apply Rems.s (Rem.s (Rem.s (Rem.s (Rem.s (Rem.s (Rem.s (Rem.s Rem.z))))))) | apply Rems.s (Rem.s (Rem.s (Rem.s (Rem.s (Rem.s (Rem.s (Rem.s (Rem.s Rem.z)))))))) | apply Rems.s (Rem.s (Rem.s (Rem.s (Rem.s (Rem.s (Rem.s (Rem.s (Rem.s (Rem.s Rem.z))))))))))) ?_
                  refine ⟨?_, rfl⟩
                  rw [hok, show bcRes n rs g m fs es lo hi = bestB (fineC n rs g m fs lo hi es) es.length by unfold bcRes; rw [if_pos hok]; simp, he] <;> rfl
              · first
                | (exfalso; first | omega | (simp_all; done) | (simp_all; omega))
                |
                  refine R_nil ?_
                  refine K_tn ?_
                  refine K_cond_f rfl ?_
                  refine K_skip ?_
                  refine K_tn ?_
                  refine K_seq ?_
                  refine R_region ?_
                  refine r_assign rfl rfl rfl ?_
                  refine R_nil ?_
                  refine K_tn ?_
                  refine K_seq ?_
                  refine R_region ?_
                  refine r_assign rfl rfl rfl ?_
                  refine R_nil ?_
                  refine K_tn ?_
                  refine K_seq ?_
                  refine K_seq ?_
                  refine R_region ?_
                  refine r_assign rfl rfl rfl ?_
                  refine R_nil ?_
                  refine K_tn ?_
                  refine K_block ?_
                  refine K_loop (fun (k : Nat) => k ≤ len) (fun k => [(1, .float .f32 g), (3, .slice (some ⟨b, 0, none⟩) len cap), (4, .float .f32 lo), (5, .float .f32 hi), (6, .pointer (some ⟨b6, 0, none⟩)), (8, .pointer (some ⟨b8, 0, none⟩)), (17, .int .i64 (bestB (fineC n rs g m fs lo hi es) k).1), (18, .int .i64 (bestB (fineC n rs g m fs lo hi es) k).2), (19, .int .i64 (k : Int))]) (fun _ => [(b6, .cells (.int .i8 (n : Int) :: fl .f32 rs).toArray 28 (0, 0)), (b8, .cells (.int .i8 (m : Int) :: fl .f32 fs).toArray 54 (0, 0))]) (fun k => len - k) 0 (by omega) (by repeat (first | exact trivial | refine ⟨rfl, ?_⟩)) (by repeat (first | exact .z | apply Rems.s Rem.z | apply Rems.s (Rem.s Rem.z) | apply Rems.s (Rem.s (Rem.s Rem.z)) | apply Rems.s (Rem.s (Rem.s (Rem.s Rem.z))) | apply Rems.s (Rem.s (Rem.s (Rem.s (Rem.s Rem.z)))) | apply Rems.s (Rem.s (Rem.s (Rem.s (Rem.s (Rem.s Rem.z))))) | apply Rems.s (Rem.s (Rem.s (Rem.s (Rem.s (Rem.s (Rem.s Rem.z)))))) | apply Rems.s (Rem.s (Rem.s (Rem.s (Rem.s (Rem.s (Rem.s (Rem.s Rem.z))))))) | apply Rems.s (Rem.s (Rem.s (Rem.s (Rem.s (Rem.s (Rem.s (Rem.s (Rem.s Rem.z)))))))) | apply Rems.s (Rem.s (Rem.s (Rem.s (Rem.s (Rem.s (Rem.s (Rem.s (Rem.s (Rem.s Rem.z))))))))))) (fun k hp => ?_)
                  refine K_seq ?_
                  refine K_seq ?_
                  refine R_region ?_
                  refine r_move rfl rfl rfl ?_
                  refine r_move rfl rfl rfl ?_
                  refine r_lenS sl_47 rfl rfl rfl ?_
                  refine s_lss rfl rfl rfl rfl (fun h54 => ?_) (fun h54 => ?_)
                  · first
                    | (exfalso; first | omega | (simp_all; done) | (simp_all; omega))
                    |
                      refine R_nil ?_
                      refine K_tn ?_
                      refine K_cond_t rfl ?_
                      refine K_skip ?_
                      refine K_tn ?_
                      refine K_seq ?_
                      refine K_block ?_
                      refine K_seq ?_
                      refine R_region ?_
                      have hle1 := filterI_le m (isEarly (arrF n rs (es.getD k 0) g) fs hi)
                      have hle2 := filterI_le m (isLate (arrF n rs (es.getD k 0) g) fs lo)
                      have hck := hpc k (by omega)
                      have hokk := okC_mk (rs := rs) hvm hv hck hg hpl hph
                      refine r_move rfl rfl rfl ?_
                      refine r_move rfl rfl rfl ?_
                      refine r_indexS sl_47 sz_23 rfl rfl rfl rfl (by omega) ?_
                      refine r_load ag_23 rfl rfl rfl (by first | exact .h .z | exact .h (.s .z) | exact .h (.s (.s .z)) | exact .h (.s (.s (.s .z))) | exact .h (.s (.s (.s (.s .z)))) | exact .h (.s (.s (.s (.s (.s .z))))) | exact .h (.s (.s (.s (.s (.s (.s .z)))))) | exact .h (.s (.s (.s (.s (.s (.s (.s .z))))))) | exact .h (.s (.s (.s (.s (.s (.s (.s (.s .z)))))))) | exact .x .z | exact .x (.s .z) | exact .x (.s (.s .z)) | exact .x (.s (.s (.s .z))) | exact .x (.s (.s (.s (.s .z)))) | exact .x (.s (.s (.s (.s (.s .z))))) | exact .x (.s (.s (.s (.s (.s (.s .z))))))) (by first | rfl | exact gC (by omega) | exact takeC (by omega) | exact takeC0 (by omega) | exact gF (by omega)) ?_
                      refine r_move rfl rfl rfl ?_
                      refine r_move rfl rfl rfl ?_
                      refine r_move rfl rfl rfl ?_
                      refine r_callR cb_85 rfl rfl rfl rfl rfl (l04Sorted _ n rs hl hn _ _ _ m fs hf hm _ _ (es.getD k 0) g lo hi hv hck hg hvm) (by repeat (first | exact .z | refine .s (.h .z) ?_ | refine .s (.h (.s .z)) ?_ | refine .s (.h (.s (.s .z))) ?_ | refine .s (.h (.s (.s (.s .z)))) ?_ | refine .s (.h (.s (.s (.s (.s .z))))) ?_ | refine .s (.h (.s (.s (.s (.s (.s .z)))))) ?_ | refine .s (.h (.s (.s (.s (.s (.s (.s .z))))))) ?_ | refine .s (.h (.s (.s (.s (.s (.s (.s (.s .z)))))))) ?_ | refine .s (.h (.s (.s (.s (.s (.s (.s (.s (.s .z))))))))) ?_ | refine .s (.x .z) ?_ | refine .s (.x (.s .z)) ?_ | refine .s (.x (.s (.s .z))) ?_ | refine .s (.x (.s (.s (.s .z)))) ?_ | refine .s (.x (.s (.s (.s (.s .z))))) ?_ | refine .s (.x (.s (.s (.s (.s (.s .z)))))) ?_ | refine .s (.x (.s (.s (.s (.s (.s (.s .z))))))) ?_)) ?_
                      rintro _ _ ⟨p, q, rfl, hq1, hq2, rfl⟩
                      refine r_move rfl rfl rfl ?_
                      refine r_extract rfl rfl rfl rfl ?_
                      refine r_extract rfl rfl rfl rfl ?_
                      refine r_assign rfl rfl rfl ?_
                      refine r_assign rfl rfl rfl ?_
                      refine R_nil ?_
                      refine K_tn ?_
                      refine K_seq ?_
                      refine R_region ?_
                      refine r_fieldAddr fd_54_0 rfl rfl rfl ?_
                      refine r_load ag_22 rfl rfl rfl (by first | exact .h .z | exact .h (.s .z) | exact .h (.s (.s .z)) | exact .h (.s (.s (.s .z))) | exact .h (.s (.s (.s (.s .z)))) | exact .h (.s (.s (.s (.s (.s .z))))) | exact .h (.s (.s (.s (.s (.s (.s .z)))))) | exact .h (.s (.s (.s (.s (.s (.s (.s .z))))))) | exact .h (.s (.s (.s (.s (.s (.s (.s (.s .z)))))))) | exact .x .z | exact .x (.s .z) | exact .x (.s (.s .z)) | exact .x (.s (.s (.s .z))) | exact .x (.s (.s (.s (.s .z)))) | exact .x (.s (.s (.s (.s (.s .z))))) | exact .x (.s (.s (.s (.s (.s (.s .z))))))) (by first | rfl | exact gC (by omega) | exact takeC (by omega) | exact takeC0 (by omega) | exact gF (by omega)) ?_
                      refine r_convI ⟨_, un_22⟩ un_2 rfl rfl rfl (i64K (by omega) (by omega)) ?_
                      refine r_move rfl rfl rfl ?_
                      refine r_lenS sl_60 rfl rfl rfl ?_
                      refine r_sub rfl rfl rfl rfl (i64K (by omega) (by omega)) ?_
                      refine r_move rfl rfl rfl ?_
                      refine r_lenS sl_60 rfl rfl rfl ?_
                      refine r_sub rfl rfl rfl rfl (i64K (by omega) (by omega)) ?_
                      refine r_assign rfl rfl rfl ?_
                      refine R_nil ?_
                      refine K_tn ?_
                      refine K_seq ?_
                      refine R_region ?_
                      refine r_move rfl rfl rfl ?_
                      refine r_move rfl rfl rfl ?_
                      refine s_gtr rfl rfl rfl rfl (fun h79 => ?_) (fun h79 => ?_)
                      · first
                        | (exfalso; first | omega | (simp_all; done) | (simp_all; omega))
                        |
                          refine R_nil ?_
                          refine K_tn ?_
                          refine K_cond_t rfl ?_
                          refine K_seq ?_
                          refine R_region ?_
                          refine r_move rfl rfl rfl ?_
                          refine r_assign rfl rfl rfl ?_
                          refine R_nil ?_
                          refine K_tn ?_
                          refine R_region ?_
                          refine r_move rfl rfl rfl ?_
                          refine r_assign rfl rfl rfl ?_
                          refine R_nil ?_
                          refine K_bn ?_
                          refine K_tn ?_
                          refine R_region ?_
                          refine r_move rfl rfl rfl ?_
                          first | refine r_addN rfl rfl rfl rfl (i64K (by omega) (by omega)) ?_ | refine r_add rfl rfl rfl rfl (i64K (by omega) (by omega)) ?_
                          refine r_assign rfl rfl rfl ?_
                          refine R_nil ?_
                          refine K_tn ?_
                          exact K_again (k + 1) (by omega) (by omega) (by repeat (first | exact trivial | refine ⟨rfl, ?_⟩ | refine ⟨congrArg (fun t : Int × Int => some (Value.int .i64 t.1)) (bestB_t (sc := (fineC n rs g m fs lo hi es)) h79).symm, ?_⟩ | refine ⟨congrArg (fun t : Int × Int => some (Value.int .i64 t.1)) (bestB_f (sc := (fineC n rs g m fs lo hi es)) h79).symm, ?_⟩ | refine ⟨congrArg (fun t : Int × Int => some (Value.int .i64 t.2)) (bestB_t (sc := (fineC n rs g m fs lo hi es)) h79).symm, ?_⟩ | refine ⟨congrArg (fun t : Int × Int => some (Value.int .i64 t.2)) (bestB_f (sc := (fineC n rs g m fs lo hi es)) h79).symm, ?_⟩)) (by repeat (first | exact .z | apply Rems.s Rem.z | apply Rems.s (Rem.s Rem.z) | apply Rems.s (Rem.s (Rem.s Rem.z)) | apply Rems.s (Rem.s (Rem.s (Rem.s Rem.z))) | apply Rems.s (Rem.s (Rem.s (Rem.s (Rem.s Rem.z)))) | apply Rems.s (Rem.s (Rem.s (Rem.s (Rem.s (Rem.s Rem.z))))) | apply Rems.s (Rem.s (Rem.s (Rem.s (Rem.s (Rem.s (Rem.s Rem.z)))))) | apply Rems.s (Rem.s (Rem.s (Rem.s (Rem.s (Rem.s (Rem.s (Rem.s Rem.z))))))) | apply Rems.s (Rem.s (Rem.s (Rem.s (Rem.s (Rem.s (Rem.s (Rem.s (Rem.s Rem.z)))))))) | apply Rems.s (Rem.s (Rem.s (Rem.s (Rem.s (Rem.s (Rem.s (Rem.s (Rem.s (Rem.s Rem.z)))))))))))
                      · first
                        | (exfalso; first | omega | (simp_all; done) | (simp_all; omega))
                        |
                          refine R_nil ?_
                          refine K_tn ?_
                          refine K_cond_f rfl ?_
                          refine K_skip ?_
                          refine K_bn ?_
                          refine K_tn ?_
                          refine R_region ?_
                          refine r_move rfl rfl rfl ?_
                          first | refine r_addN rfl rfl rfl rfl (i64K (by omega) (by omega)) ?_ | refine r_add rfl rfl rfl rfl (i64K (by omega) (by omega)) ?_
                          refine r_assign rfl rfl rfl ?_
                          refine R_nil ?_
                          refine K_tn ?_
                          exact K_again (k + 1) (by omega) (by omega) (by repeat (first | exact trivial | refine ⟨rfl, ?_⟩ | refine ⟨congrArg (fun t : Int × Int => some (Value.int .i64 t.1)) (bestB_t (sc := (fineC n rs g m fs lo hi es)) h79).symm, ?_⟩ | refine ⟨congrArg (fun t : Int × Int => some (Value.int .i64 t.1)) (bestB_f (sc := (fineC n rs g m fs lo hi es)) h79).symm, ?_⟩ | refine ⟨congrArg (fun t : Int × Int => some (Value.int .i64 t.2)) (bestB_t (sc := (fineC n rs g m fs lo hi es)) h79).symm, ?_⟩ | refine ⟨congrArg (fun t : Int × Int => some (Value.int .i64 t.2)) (bestB_f (sc := (fineC n rs g m fs lo hi es)) h79).symm, ?_⟩)) (by repeat (first | exact .z | apply Rems.s Rem.z | apply Rems.s (Rem.s Rem.z) | apply Rems.s (Rem.s (Rem.s Rem.z)) | apply Rems.s (Rem.s (Rem.s (Rem.s Rem.z))) | apply Rems.s (Rem.s (Rem.s (Rem.s (Rem.s Rem.z)))) | apply Rems.s (Rem.s (Rem.s (Rem.s (Rem.s (Rem.s Rem.z))))) | apply Rems.s (Rem.s (Rem.s (Rem.s (Rem.s (Rem.s (Rem.s Rem.z)))))) | apply Rems.s (Rem.s (Rem.s (Rem.s (Rem.s (Rem.s (Rem.s (Rem.s Rem.z))))))) | apply Rems.s (Rem.s (Rem.s (Rem.s (Rem.s (Rem.s (Rem.s (Rem.s (Rem.s Rem.z)))))))) | apply Rems.s (Rem.s (Rem.s (Rem.s (Rem.s (Rem.s (Rem.s (Rem.s (Rem.s (Rem.s Rem.z)))))))))))
                  · first
                    | (exfalso; first | omega | (simp_all; done) | (simp_all; omega))
                    |
                      refine R_nil ?_
                      refine K_tn ?_
                      refine K_cond_f rfl ?_
                      refine K_exit ?_
                      refine K_te ?_
                      refine K_te ?_
                      refine K_be ?_
                      refine K_tn ?_
                      refine K_seq ?_
                      refine R_region ?_
                      have hkn : k = len := by omega
                      subst hkn
                      refine r_move rfl rfl rfl ?_
                      refine r_move rfl rfl rfl ?_
                      refine r_assign rfl rfl rfl ?_
                      refine r_assign rfl rfl rfl ?_
                      refine r_assign rfl rfl rfl ?_
                      refine R_nil ?_
                      refine K_tn ?_
                      refine K_ret ?_
                      refine K_done (H' := []) rfl rfl (.s (.tmp rfl) (.s (.tmp rfl) (.s (.tmp rfl) .z))) (by repeat (first | exact .z | apply Rems.s Rem.z | apply Rems.s (Rem.s Rem.z) | apply Rems.s (Rem.s (Rem.s Rem.z)) | apply Rems.s (Rem.s (Rem.s (Rem.s Rem.z))) | apply Rems.s (Rem.s (Rem.s (Rem.s (Rem.s Rem.z)))) | apply Rems.s (Rem.s (Rem.s (Rem.s (Rem.s (Rem.s Rem.z))))) | apply Rems.s (Rem.s (Rem.s (Rem.s (Rem.s (Rem.s (Rem.s Rem.z)))))) | apply Rems.s (Rem.s (Rem.s (Rem.s (Rem.s (Rem.s (Rem.s (Rem.s Rem.z))))))) | apply Rems.s (Rem.s (Rem.s (Rem.s (Rem.s (Rem.s (Rem.s (Rem.s (Rem.s Rem.z)))))))) | apply Rems.s (Rem.s (Rem.s (Rem.s (Rem.s (Rem.s (Rem.s (Rem.s (Rem.s (Rem.s Rem.z))))))))))) ?_
                      refine ⟨?_, rfl⟩
                      rw [hok, show bcRes n rs g m fs es lo hi = bestB (fineC n rs g m fs lo hi es) es.length by unfold bcRes; rw [if_pos hok]; simp, he] <;> rfl
      · first
        | (exfalso; first | omega | (simp_all; done) | (simp_all; omega))
        |
          refine r_pick_t rfl rfl rfl rfl ?_
          refine R_nil ?_
          refine K_tn ?_
          refine K_cond_f rfl ?_
          refine K_skip ?_
          refine K_tn ?_
          refine K_seq ?_
          refine K_seq ?_
          refine R_region ?_
          refine r_move rfl rfl rfl ?_
          refine s_eql rfl rfl rfl rfl (fun h42 => ?_) (fun h42 => ?_)
          · first
            | (exfalso; first | omega | (simp_all; done) | (simp_all; omega))
            |
              refine r_move rfl rfl rfl ?_
              refine r_move rfl rfl rfl ?_
              refine r_lenS sl_47 rfl rfl rfl ?_
              refine s_eql rfl rfl rfl rfl (fun h46 => ?_) (fun h46 => ?_)
              · first
                | (exfalso; first | omega | (simp_all; done) | (simp_all; omega))
                |
                  refine r_pick_t rfl rfl rfl rfl ?_
                  refine R_nil ?_
                  refine K_tn ?_
                  refine K_cond_t rfl ?_
                  refine R_region ?_
                  refine r_assign rfl rfl rfl ?_
                  refine R_nil ?_
                  refine K_tn ?_
                  refine K_seq ?_
                  refine K_seq ?_
                  refine R_region ?_
                  refine r_move rfl rfl rfl ?_
                  refine s_neq rfl rfl rfl rfl (fun h49 => ?_) (fun h49 => ?_)
                  · first
                    | (exfalso; first | omega | (simp_all; done) | (simp_all; omega))
                    |
                      refine R_nil ?_
                      refine K_tn ?_
                      refine K_cond_t rfl ?_
                      refine K_seq ?_
                      refine R_region ?_
                      refine r_move rfl rfl rfl ?_
                      refine r_assign rfl rfl rfl ?_
                      refine r_assign rfl rfl rfl ?_
                      refine r_assign rfl rfl rfl ?_
                      refine R_nil ?_
                      refine K_tn ?_
                      refine K_ret ?_
                      refine K_tr ?_
                      refine K_done (H' := []) rfl rfl (.s (.tmp rfl) (.s (.tmp rfl) (.s (.tmp rfl) .z))) (by repeat (first | exact .z | apply Rems.s Rem.z | apply Rems.s (Rem.s Rem.z) | apply Rems.s (Rem.s (Rem.s Rem.z)) | apply Rems.s (Rem.s (Rem.s (Rem.s Rem.z))) | apply Rems.s (Rem.s (Rem.s (Rem.s (Rem.s Rem.z)))) | apply Rems.s (Rem.s (Rem.s (Rem.s (Rem.s (Rem.s Rem.z))))) | apply Rems.s (Rem.s (Rem.s (Rem.s (Rem.s (Rem.s (Rem.s Rem.z)))))) | apply Rems.s (Rem.s (Rem.s (Rem.s (Rem.s (Rem.s (Rem.s (Rem.s Rem.z))))))) | apply Rems.s (Rem.s (Rem.s (Rem.s (Rem.s (Rem.s (Rem.s (Rem.s (Rem.s Rem.z)))))))) | apply Rems.s (Rem.s (Rem.s (Rem.s (Rem.s (Rem.s (Rem.s (Rem.s (Rem.s (Rem.s Rem.z))))))))))) ?_
                      refine ⟨?_, rfl⟩
                      rw [hok, show bcRes n rs g m fs es lo hi = bestB (fineC n rs g m fs lo hi es) es.length by unfold bcRes; rw [if_pos hok]; simp, he] <;> rfl
                  · first
                    | (exfalso; first | omega | (simp_all; done) | (simp_all; omega))
                    |
                      refine R_nil ?_
                      refine K_tn ?_
                      refine K_cond_f rfl ?_
                      refine K_skip ?_
                      refine K_tn ?_
                      refine K_seq ?_
                      refine R_region ?_
                      refine r_assign rfl rfl rfl ?_
                      refine R_nil ?_
                      refine K_tn ?_
                      refine K_seq ?_
                      refine R_region ?_
                      refine r_assign rfl rfl rfl ?_
                      refine R_nil ?_
                      refine K_tn ?_
                      refine K_seq ?_
                      refine K_seq ?_
                      refine R_region ?_
                      refine r_assign rfl rfl rfl ?_
                      refine R_nil ?_
                      refine K_tn ?_
                      refine K_block ?_
                      refine K_loop (fun (k : Nat) => k ≤ len) (fun k => [(1, .float .f32 g), (3, .slice (some ⟨b, 0, none⟩) len cap), (4, .float .f32 lo), (5, .float .f32 hi), (6, .pointer (some ⟨b6, 0, none⟩)), (8, .pointer (some ⟨b8, 0, none⟩)), (17, .int .i64 (bestB (fineC n rs g m fs lo hi es) k).1), (18, .int .i64 (bestB (fineC n rs g m fs lo hi es) k).2), (19, .int .i64 (k : Int))]) (fun _ => [(b6, .cells (.int .i8 (n : Int) :: fl .f32 rs).toArray 28 (0, 0)), (b8, .cells (.int .i8 (m : Int) :: fl .f32 fs).toArray 54 (0, 0))]) (fun k => len - k) 0 (by omega) (by repeat (first | exact trivial | refine ⟨rfl, ?_⟩)) (by repeat (first | exact .z | apply Rems.s Rem.z | apply Rems.s (Rem.s Rem.z) | apply Rems.s (Rem.s (Rem.s Rem.z)) | apply Rems.s (Rem.s (Rem.s (Rem.s Rem.z))) | apply Rems.s (Rem.s (Rem.s (Rem.s (Rem.s Rem.z)))) | apply Rems.s (Rem.s (Rem.s (Rem.s (Rem.s (Rem.s Rem.z))))) | apply Rems.s (Rem.s (Rem.s (Rem.s (Rem.s (Rem.s (Rem.s Rem.z)))))) | apply Rems.s (Rem.s (Rem.s (Rem.s (Rem.s (Rem.s (Rem.s (Rem.s Rem.z))))))) | apply Rems.s (Rem.s (Rem.s (Rem.s (Rem.s (Rem.s (Rem.s (Rem.s (Rem.s Rem.z)))))))) | apply Rems.s (Rem.s (Rem.s (Rem.s (Rem.s (Rem.s (Rem.s (Rem.s (Rem.s (Rem.s Rem.z))))))))))) (fun k hp => ?_)
                      refine K_seq ?_
                      refine K_seq ?_
                      refine R_region ?_
                      refine r_move rfl rfl rfl ?_
                      refine r_move rfl rfl rfl ?_
                      refine r_lenS sl_47 rfl rfl rfl ?_
                      refine s_lss rfl rfl rfl rfl (fun h54 => ?_) (fun h54 => ?_)
                      · first
                        | (exfalso; first | omega | (simp_all; done) | (simp_all; omega))
                        |
                          refine R_nil ?_
                          refine K_tn ?_
                          refine K_cond_t rfl ?_
                          refine K_skip ?_
                          refine K_tn ?_
                          refine K_seq ?_
                          refine K_block ?_
                          refine K_seq ?_
                          refine R_region ?_
                          have hle1 := filterI_le m (isEarly (arrF n rs (es.getD k 0) g) fs hi)
                          have hle2 := filterI_le m (isLate (arrF n rs (es.getD k 0) g) fs lo)
                          have hck := hpc k (by omega)
                          have hokk := okC_mk (rs := rs) hvm hv hck hg hpl hph
                          refine r_move rfl rfl rfl ?_
                          refine r_move rfl rfl rfl ?_
                          refine r_indexS sl_47 sz_23 rfl rfl rfl rfl (by omega) ?_
                          refine r_load ag_23 rfl rfl rfl (by first | exact .h .z | exact .h (.s .z) | exact .h (.s (.s .z)) | exact .h (.s (.s (.s .z))) | exact .h (.s (.s (.s (.s .z)))) | exact .h (.s (.s (.s (.s (.s .z))))) | exact .h (.s (.s (.s (.s (.s (.s .z)))))) | exact .h (.s (.s (.s (.s (.s (.s (.s .z))))))) | exact .h (.s (.s (.s (.s (.s (.s (.s (.s .z)))))))) | exact .x .z | exact .x (.s .z) | exact .x (.s (.s .z)) | exact .x (.s (.s (.s .z))) | exact .x (.s (.s (.s (.s .z)))) | exact .x (.s (.s (.s (.s (.s .z))))) | exact .x (.s (.s (.s (.s (.s (.s .z))))))) (by first | rfl | exact gC (by omega) | exact takeC (by omega) | exact takeC0 (by omega) | exact gF (by omega)) ?_
                          refine r_move rfl rfl rfl ?_
                          refine r_move rfl rfl rfl ?_
                          refine r_move rfl rfl rfl ?_
                          refine r_callR cb_85 rfl rfl rfl rfl rfl (l04Sorted _ n rs hl hn _ _ _ m fs hf hm _ _ (es.getD k 0) g lo hi hv hck hg hvm) (by repeat (first | exact .z | refine .s (.h .z) ?_ | refine .s (.h (.s .z)) ?_ | refine .s (.h (.s (.s .z))) ?_ | refine .s (.h (.s (.s (.s .z)))) ?_ | refine .s (.h (.s (.s (.s (.s .z))))) ?_ | refine .s (.h (.s (.s (.s (.s (.s .z)))))) ?_ | refine .s (.h (.s (.s (.s (.s (.s (.s .z))))))) ?_ | refine .s (.h (.s (.s (.s (.s (.s (.s (.s .z)))))))) ?_ | refine .s (.h (.s (.s (.s (.s (.s (.s (.s (.s .z))))))))) ?_ | refine .s (.x .z) ?_ | refine .s (.x (.s .z)) ?_ | refine .s (.x (.s (.s .z))) ?_ | refine .s (.x (.s (.s (.s .z)))) ?_ | refine .s (.x (.s (.s (.s (.s .z))))) ?_ | refine .s (.x (.s (.s (.s (.s (.s .z)))))) ?_ | refine .s (.x (.s (.s (.s (.s (.s (.s .z))))))) ?_)) ?_
                          rintro _ _ ⟨p, q, rfl, hq1, hq2, rfl⟩
                          refine r_move rfl rfl rfl ?_
                          refine r_extract rfl rfl rfl rfl ?_
                          refine r_extract rfl rfl rfl rfl ?_
                          refine r_assign rfl rfl rfl ?_
                          refine r_assign rfl rfl rfl ?_
                          refine R_nil ?_
                          refine K_tn ?_
                          refine K_seq ?_
                          refine R_region ?_
                          refine r_fieldAddr fd_54_0 rfl rfl rfl ?_
                          refine r_load ag_22 rfl rfl rfl (by first | exact .h .z | exact .h (.s .z) | exact .h (.s (.s .z)) | exact .h (.s (.s (.s .z))) | exact .h (.s (.s (.s (.s .z)))) | exact .h (.s (.s (.s (.s (.s .z))))) | exact .h (.s (.s (.s (.s (.s (.s .z)))))) | exact .h (.s (.s (.s (.s (.s (.s (.s .z))))))) | exact .h (.s (.s (.s (.s (.s (.s (.s (.s .z)))))))) | exact .x .z | exact .x (.s .z) | exact .x (.s (.s .z)) | exact .x (.s (.s (.s .z))) | exact .x (.s (.s (.s (.s .z)))) | exact .x (.s (.s (.s (.s (.s .z))))) | exact .x (.s (.s (.s (.s (.s (.s .z))))))) (by first | rfl | exact gC (by omega) | exact takeC (by omega) | exact takeC0 (by omega) | exact gF (by omega)) ?_
                          refine r_convI ⟨_, un_22⟩ un_2 rfl rfl rfl (i64K (by omega) (by omega)) ?_
                          refine r_move rfl rfl rfl ?_
                          refine r_lenS sl_60 rfl rfl rfl ?_
                          refine r_sub rfl rfl rfl rfl (i64K (by omega) (by omega)) ?_
                          refine r_move rfl rfl rfl ?_
                          refine r_lenS sl_60 rfl rfl rfl ?_
                          refine r_sub rfl rfl rfl rfl (i64K (by omega) (by omega)) ?_
                          refine r_assign rfl rfl rfl ?_
                          refine R_nil ?_
                          refine K_tn ?_
                          refine K_seq ?_
                          refine R_region ?_
                          refine r_move rfl rfl rfl ?_
                          refine r_move rfl rfl rfl ?_
                          refine s_gtr rfl rfl rfl rfl (fun h79 => ?_) (fun h79 => ?_)
                          · first
                            | (exfalso; first | omega | (simp_all; done) | (simp_all; omega))
                            |
                              refine R_nil ?_
                              refine K_tn ?_
                              refine K_cond_t rfl ?_
                              refine K_seq ?_
                              refine R_region ?_
                              refine r_move rfl rfl rfl ?_
                              refine r_assign rfl rfl rfl ?_
                              refine R_nil ?_
                              refine K_tn ?_
                              refine R_region ?_
                              refine r_move rfl rfl rfl ?_
                              refine r_assign rfl rfl rfl ?_
                              refine R_nil ?_
                              refine K_bn ?_
                              refine K_tn ?_
                              refine R_region ?_
                              refine r_move rfl rfl rfl ?_
                              first | refine r_addN rfl rfl rfl rfl (i64K (by omega) (by omega)) ?_ | refine r_add rfl rfl rfl rfl (i64K (by omega) (by omega)) ?_
                              refine r_assign rfl rfl rfl ?_
                              refine R_nil ?_
                              refine K_tn ?_
                              exact K_again (k + 1) (by omega) (by omega) (by repeat (first | exact trivial | refine ⟨rfl, ?_⟩ | refine ⟨congrArg (fun t : Int × Int => some (Value.int .i64 t.1)) (bestB_t (sc := (fineC n rs g m fs lo hi es)) h79).symm, ?_⟩ | refine ⟨congrArg (fun t : Int × Int => some (Value.int .i64 t.1)) (bestB_f (sc := (fineC n rs g m fs lo hi es)) h79).symm, ?_⟩ | refine ⟨congrArg (fun t : Int × Int => some (Value.int .i64 t.2)) (bestB_t (sc := (fineC n rs g m fs lo hi es)) h79).symm, ?_⟩ | refine ⟨congrArg (fun t : Int × Int => some (Value.int .i64 t.2)) (bestB_f (sc := (fineC n rs g m fs lo hi es)) h79).symm, ?_⟩)) (by repeat (first | exact .z | apply Rems.s Rem.z | apply Rems.s (Rem.s Rem.z) | apply Rems.s (Rem.s (Rem.s Rem.z)) | apply Rems.s (Rem.s (Rem.s (Rem.s Rem.z))) | apply Rems.s (Rem.s (Rem.s (Rem.s (Rem.s Rem.z)))) | apply Rems.s (Rem.s (Rem.s (Rem.s (Rem.s (Rem.s Rem.z))))) | apply Rems.s (Rem.s (Rem.s (Rem.s (Rem.s (Rem.s (Rem.s Rem.z)))))) | apply Rems.s (Rem.s (Rem.s (Rem.s (Rem.s (Rem.s (Rem.s (Rem.s Rem.z))))))) | apply Rems.s (Rem.s (Rem.s (Rem.s (Rem.s (Rem.s (Rem.s (Rem.s (Rem.s Rem.z)))))))) | apply Rems.s (Rem.s (Rem.s (Rem.s (Rem.s (Rem.s (Rem.s (Rem.s (Rem.s (Rem.s Rem.z)))))))))))
                          · first
                            | (exfalso; first | omega | (simp_all; done) | (simp_all; omega))
                            |
                              refine R_nil ?_
                              refine K_tn ?_
                              refine K_cond_f rfl ?_
                              refine K_skip ?_
                              refine K_bn ?_
                              refine K_tn ?_
                              refine R_region ?_
                              refine r_move rfl rfl rfl ?_
                              first | refine r_addN rfl rfl rfl rfl (i64K (by omega) (by omega)) ?_ | refine r_add rfl rfl rfl rfl (i64K (by omega) (by omega)) ?_
                              refine r_assign rfl rfl rfl ?_
                              refine R_nil ?_
                              refine K_tn ?_
                              exact K_again (k + 1) (by omega) (by omega) (by repeat (first | exact trivial | refine ⟨rfl, ?_⟩ | refine ⟨congrArg (fun t : Int × Int => some (Value.int .i64 t.1)) (bestB_t (sc := (fineC n rs g m fs lo hi es)) h79).symm, ?_⟩ | refine ⟨congrArg (fun t : Int × Int => some (Value.int .i64 t.1)) (bestB_f (sc := (fineC n rs g m fs lo hi es)) h79).symm, ?_⟩ | refine ⟨congrArg (fun t : Int × Int => some (Value.int .i64 t.2)) (bestB_t (sc := (fineC n rs g m fs lo hi es)) h79).symm, ?_⟩ | refine ⟨congrArg (fun t : Int × Int => some (Value.int .i64 t.2)) (bestB_f (sc := (fineC n rs g m fs lo hi es)) h79).symm, ?_⟩)) (by repeat (first | exact .z | apply Rems.s Rem.z | apply Rems.s (Rem.s Rem.z) | apply Rems.s (Rem.s (Rem.s Rem.z)) | apply Rems.s (Rem.s (Rem.s (Rem.s Rem.z))) | apply Rems.s (Rem.s (Rem.s (Rem.s (Rem.s Rem.z)))) | apply Rems.s (Rem.s (Rem.s (Rem.s (Rem.s (Rem.s Rem.z))))) | apply Rems.s (Rem.s (Rem.s (Rem.s (Rem.s (Rem.s (Rem.s Rem.z)))))) | apply Rems.s (Rem.s (Rem.s (Rem.s (Rem.s (Rem.s (Rem.s (Rem.s Rem.z))))))) | apply Rems.s (Rem.s (Rem.s (Rem.s (Rem.s (Rem.s (Rem.s (Rem.s (Rem.s Rem.z)))))))) | apply Rems.s (Rem.s (Rem.s (Rem.s (Rem.s (Rem.s (Rem.s (Rem.s (Rem.s (Rem.s Rem.z)))))))))))
                      · first
                        | (exfalso; first | omega | (simp_all; done) | (simp_all; omega))
                        |
                          refine R_nil ?_
                          refine K_tn ?_
                          refine K_cond_f rfl ?_
                          refine K_exit ?_
                          refine K_te ?_
                          refine K_te ?_
                          refine K_be ?_
                          refine K_tn ?_
                          refine K_seq ?_
                          refine R_region ?_
                          have hkn : k = len := by omega
                          subst hkn
                          refine r_move rfl rfl rfl ?_
                          refine r_move rfl rfl rfl ?_
                          refine r_assign rfl rfl rfl ?_
                          refine r_assign rfl rfl rfl ?_
                          refine r_assign rfl rfl rfl ?_
                          refine R_nil ?_
                          refine K_tn ?_
                          refine K_ret ?_
                          refine K_done (H' := []) rfl rfl (.s (.tmp rfl) (.s (.tmp rfl) (.s (.tmp rfl) .z))) (by repeat (first | exact .z | apply Rems.s Rem.z | apply Rems.s (Rem.s Rem.z) | apply Rems.s (Rem.s (Rem.s Rem.z)) | apply Rems.s (Rem.s (Rem.s (Rem.s Rem.z))) | apply Rems.s (Rem.s (Rem.s (Rem.s (Rem.s Rem.z)))) | apply Rems.s (Rem.s (Rem.s (Rem.s (Rem.s (Rem.s Rem.z))))) | apply Rems.s (Rem.s (Rem.s (Rem.s (Rem.s (Rem.s (Rem.s Rem.z)))))) | apply Rems.s (Rem.s (Rem.s (Rem.s (Rem.s (Rem.s (Rem.s (Rem.s Rem.z))))))) | apply Rems.s (Rem.s (Rem.s (Rem.s (Rem.s (Rem.s (Rem.s (Rem.s (Rem.s Rem.z)))))))) | apply Rems.s (Rem.s (Rem.s (Rem.s (Rem.s (Rem.s (Rem.s (Rem.s (Rem.s (Rem.s Rem.z))))))))))) ?_
                          refine ⟨?_, rfl⟩
                          rw [hok, show bcRes n rs g m fs es lo hi = bestB (fineC n rs g m fs lo hi es) es.length by unfold bcRes; rw [if_pos hok]; simp, he] <;> rfl
              · first
                | (exfalso; first | omega | (simp_all; done) | (simp_all; omega))
                |
                  refine r_pick_t rfl rfl rfl rfl ?_
                  refine R_nil ?_
                  refine K_tn ?_
                  refine K_cond_f rfl ?_
                  refine K_skip ?_
                  refine K_tn ?_
                  refine K_seq ?_
                  refine K_seq ?_
                  refine R_region ?_
                  refine r_move rfl rfl rfl ?_
                  refine s_neq rfl rfl rfl rfl (fun h49 => ?_) (fun h49 => ?_)
                  · first
                    | (exfalso; first | omega | (simp_all; done) | (simp_all; omega))
                    |
                      refine R_nil ?_
                      refine K_tn ?_
                      refine K_cond_t rfl ?_
                      refine K_seq ?_
                      refine R_region ?_
                      refine r_move rfl rfl rfl ?_
                      refine r_assign rfl rfl rfl ?_
                      refine r_assign rfl rfl rfl ?_
                      refine r_assign rfl rfl rfl ?_
                      refine R_nil ?_
                      refine K_tn ?_
                      refine K_ret ?_
                      refine K_tr ?_
                      refine K_done (H' := []) rfl rfl (.s (.tmp rfl) (.s (.tmp rfl) (.s (.tmp rfl) .z))) (by repeat (first | exact .z | apply Rems.s Rem.z | apply Rems.s (Rem.s Rem.z) | apply Rems.s (Rem.s (Rem.s Rem.z)) | apply Rems.s (Rem.s (Rem.s (Rem.s Rem.z))) | apply Rems.s (Rem.s (Rem.s (Rem.s (Rem.s Rem.z)))) | apply Rems.s (Rem.s (Rem.s (Rem.s (Rem.s (Rem.s Rem.z))))) | apply Rems.s (Rem.s (Rem.s (Rem.s (Rem.s (Rem.s (Rem.s Rem.z)))))) | apply Rems.s (Rem.s (Rem.s (Rem.s (Rem.s (Rem.s (Rem.s (Rem.s Rem.z))))))) | apply Rems.s (Rem.s (Rem.s (Rem.s (Rem.s (Rem.s (Rem.s (Rem.s (Rem.s Rem.z)))))))) | apply Rems.s (Rem.s (Rem.s (Rem.s (Rem.s (Rem.s (Rem.s (Rem.s (Rem.s (Rem.s Rem.z))))))))))) ?_
                      refine ⟨?_, rfl⟩
                      rw [hok, show bcRes n rs g m fs es lo hi = bestB (fineC n rs g m fs lo hi es) es.length by unfold bcRes; rw [if_pos hok]; simp, he] <;> rfl
                  · first
                    | (exfalso; first | omega | (simp_all; done) | (simp_all; omega))
                    |
                      refine R_nil ?_
                      refine K_tn ?_
                      refine K_cond_f rfl ?_
                      refine K_skip ?_
                      refine K_tn ?_
                      refine K_seq ?_
                      refine R_region ?_
                      refine r_assign rfl rfl rfl ?_
                      refine R_nil ?_
                      refine K_tn ?_
                      refine K_seq ?_
                      refine R_region ?_
                      refine r_assign rfl rfl rfl ?_
                      refine R_nil ?_
                      refine K_tn ?_
                      refine K_seq ?_
                      refine K_seq ?_
                      refine R_region ?_
                      refine r_assign rfl rfl rfl ?_
                      refine R_nil ?_
                      refine K_tn ?_
                      refine K_block ?_
                      refine K_loop (fun (k : Nat) => k ≤ len) (fun k => [(1, .float .f32 g), (3, .slice (some ⟨b, 0, none⟩) len cap), (4, .float .f32 lo), (5, .float .f32 hi), (6, .pointer (some ⟨b6, 0, none⟩)), (8, .pointer (some ⟨b8, 0, none⟩)), (17, .int .i64 (bestB (fineC n rs g m fs lo hi es) k).1), (18, .int .i64 (bestB (fineC n rs g m fs lo hi es) k).2), (19, .int .i64 (k : Int))]) (fun _ => [(b6, .cells (.int .i8 (n : Int) :: fl .f32 rs).toArray 28 (0, 0)), (b8, .cells (.int .i8 (m : Int) :: fl .f32 fs).toArray 54 (0, 0))]) (fun k => len - k) 0 (by omega) (by repeat (first | exact trivial | refine ⟨rfl, ?_⟩)) (by repeat (first | exact .z | apply Rems.s Rem.z | apply Rems.s (Rem.s Rem.z) | apply Rems.s (Rem.s (Rem.s Rem.z)) | apply Rems.s (Rem.s (Rem.s (Rem.s Rem.z))) | apply Rems.s (Rem.s (Rem.s (Rem.s (Rem.s Rem.z)))) | apply Rems.s (Rem.s (Rem.s (Rem.s (Rem.s (Rem.s Rem.z))))) | apply Rems.s (Rem.s (Rem.s (Rem.s (Rem.s (Rem.s (Rem.s Rem.z)))))) | apply Rems.s (Rem.s (Rem.s (Rem.s (Rem.s (Rem.s (Rem.s (Rem.s Rem.z))))))) | apply Rems.s (Rem.s (Rem.s (Rem.s (Rem.s (Rem.s (Rem.s (Rem.s (Rem.s Rem.z)))))))) | apply Rems.s (Rem.s (Rem.s (Rem.s (Rem.s (Rem.s (Rem.s (Rem.s (Rem.s (Rem.s Rem.z))))))))))) (fun k hp => ?_)
                      refine K_seq ?_
                      refine K_seq ?_
                      refine R_region ?_
                      refine r_move rfl rfl rfl ?_
                      refine r_move rfl rfl rfl ?_
                      refine r_lenS sl_47 rfl rfl rfl ?_
                      refine s_lss rfl rfl rfl rfl (fun h54 => ?_) (fun h54 => ?_)
                      · first
                        | (exfalso; first | omega | (simp_all; done) | (simp_all; omega))
                        |
                          refine R_nil ?_
                          refine K_tn ?_
                          refine K_cond_t rfl ?_
                          refine K_skip ?_
                          refine K_tn ?_
                          refine K_seq ?_
                          refine K_block ?_
                          refine K_seq ?_
                          refine R_region ?_
                          have hle1 := filterI_le m (isEarly (arrF n rs (es.getD k 0) g) fs hi)
                          have hle2 := filterI_le m (isLate (arrF n rs (es.getD k 0) g) fs lo)
                          have hck := hpc k (by omega)
                          have hokk := okC_mk (rs := rs) hvm hv hck hg hpl hph
                          refine r_move rfl rfl rfl ?_
                          refine r_move rfl rfl rfl ?_
                          refine r_indexS sl_47 sz_23 rfl rfl rfl rfl (by omega) ?_
                          refine r_load ag_23 rfl rfl rfl (by first | exact .h .z | exact .h (.s .z) | exact .h (.s (.s .z)) | exact .h (.s (.s (.s .z))) | exact .h (.s (.s (.s (.s .z)))) | exact .h (.s (.s (.s (.s (.s .z))))) | exact .h (.s (.s (.s (.s (.s (.s .z)))))) | exact .h (.s (.s (.s (.s (.s (.s (.s .z))))))) | exact .h (.s (.s (.s (.s (.s (.s (.s (.s .z)))))))) | exact .x .z | exact .x (.s .z) | exact .x (.s (.s .z)) | exact .x (.s (.s (.s .z))) | exact .x (.s (.s (.s (.s .z)))) | exact .x (.s (.s (.s (.s (.s .z))))) | exact .x (.s (.s (.s (.s (.s (.s .z))))))) (by first | rfl | exact gC (by omega) | exact takeC (by omega) | exact takeC0 (by omega) | exact gF (by omega)) ?_
                          refine r_move rfl rfl rfl ?_
                          refine r_move rfl rfl rfl ?_
                          refine r_move rfl rfl rfl ?_
                          refine r_callR cb_85 rfl rfl rfl rfl rfl (l04Sorted _ n rs hl hn _ _ _ m fs hf hm _ _ (es.getD k 0) g lo hi hv hck hg hvm) (by repeat (first | exact .z | refine .s (.h .z) ?_ | refine .s (.h (.s .z)) ?_ | refine .s (.h (.s (.s .z))) ?_ | refine .s (.h (.s (.s (.s .z)))) ?_ | refine .s (.h (.s (.s (.s (.s .z))))) ?_ | refine .s (.h (.s (.s (.s (.s (.s .z)))))) ?_ | refine .s (.h (.s (.s (.s (.s (.s (.s .z))))))) ?_ | refine .s (.h (.s (.s (.s (.s (.s (.s (.s .z)))))))) ?_ | refine .s (.h (.s (.s (.s (.s (.s (.s (.s (.s .z))))))))) ?_ | refine .s (.x .z) ?_ | refine .s (.x (.s .z)) ?_ | refine .s (.x (.s (.s .z))) ?_ | refine .s (.x (.s (.s (.s .z)))) ?_ | refine .s (.x (.s (.s (.s (.s .z))))) ?_ | refine .s (.x (.s (.s (.s (.s (.s .z)))))) ?_ | refine .s (.x (.s (.s (.s (.s (.s (.s .z))))))) ?_)) ?_
                          rintro _ _ ⟨p, q, rfl, hq1, hq2, rfl⟩
                          refine r_move rfl rfl rfl ?_
                          refine r_extract rfl rfl rfl rfl ?_
                          refine r_extract rfl rfl rfl rfl ?_
                          refine r_assign rfl rfl rfl ?_
                          refine r_assign rfl rfl rfl ?_
                          refine R_nil ?_
                          refine K_tn ?_
                          refine K_seq ?_
                          refine R_region ?_
                          refine r_fieldAddr fd_54_0 rfl rfl rfl ?_
                          refine r_load ag_22 rfl rfl rfl (by first | exact .h .z | exact .h (.s .z) | exact .h (.s (.s .z)) | exact .h (.s (.s (.s .z))) | exact .h (.s (.s (.s (.s .z)))) | exact .h (.s (.s (.s (.s (.s .z))))) | exact .h (.s (.s (.s (.s (.s (.s .z)))))) | exact .h (.s (.s (.s (.s (.s (.s (.s .z))))))) | exact .h (.s (.s (.s (.s (.s (.s (.s (.s .z)))))))) | exact .x .z | exact .x (.s .z) | exact .x (.s (.s .z)) | exact .x (.s (.s (.s .z))) | exact .x (.s (.s (.s (.s .z)))) | exact .x (.s (.s (.s (.s (.s .z))))) | exact .x (.s (.s (.s (.s (.s (.s .z))))))) (by first | rfl | exact gC (by omega) | exact takeC (by omega) | exact takeC0 (by omega) | exact gF (by omega)) ?_
                          refine r_convI ⟨_, un_22⟩ un_2 rfl rfl rfl (i64K (by omega) (by omega)) ?_
                          refine r_move rfl rfl rfl ?_
                          refine r_lenS sl_60 rfl rfl rfl ?_
                          refine r_sub rfl rfl rfl rfl (i64K (by omega) (by omega)) ?_
                          refine r_move rfl rfl rfl ?_
                          refine r_lenS sl_60 rfl rfl rfl ?_
                          refine r_sub rfl rfl rfl rfl (i64K (by omega) (by omega)) ?_
                          refine r_assign rfl rfl rfl ?_
                          refine R_nil ?_
                          refine K_tn ?_
                          refine K_seq ?_
                          refine R_region ?_
                          refine r_move rfl rfl rfl ?_
                          refine r_move rfl rfl rfl ?_
                          refine s_gtr rfl rfl rfl rfl (fun h79 => ?_) (fun h79 => ?_)
                          · first
                            | (exfalso; first | omega | (simp_all; done) | (simp_all; omega))
                            |
                              refine R_nil ?_
                              refine K_tn ?_
                              refine K_cond_t rfl ?_
                              refine K_seq ?_
                              refine R_region ?_
                              refine r_move rfl rfl rfl ?_
                              refine r_assign rfl rfl rfl ?_
                              refine R_nil ?_
                              refine K_tn ?_
                              refine R_region ?_
                              refine r_move rfl rfl rfl ?_
                              refine r_assign rfl rfl rfl ?_
                              refine R_nil ?_
                              refine K_bn ?_
                              refine K_tn ?_
                              refine R_region ?_
                              refine r_move rfl rfl rfl ?_
                              first | refine r_addN rfl rfl rfl rfl (i64K (by omega) (by omega)) ?_ | refine r_add rfl rfl rfl rfl (i64K (by omega) (by omega)) ?_
                              refine r_assign rfl rfl rfl ?_
                              refine R_nil ?_
                              refine K_tn ?_
                              exact K_again (k + 1) (by omega) (by omega) (by repeat (first | exact trivial | refine ⟨rfl, ?_⟩ | refine ⟨congrArg (fun t : Int × Int => some (Value.int .i64 t.1)) (bestB_t (sc := (fineC n rs g m fs lo hi es)) h79).symm, ?_⟩ | refine ⟨congrArg (fun t : Int × Int => some (Value.int .i64 t.1)) (bestB_f (sc := (fineC n rs g m fs lo hi es)) h79).symm, ?_⟩ | refine ⟨congrArg (fun t : Int × Int => some (Value.int .i64 t.2)) (bestB_t (sc := (fineC n rs g m fs lo hi es)) h79).symm, ?_⟩ | refine ⟨congrArg (fun t : Int × Int => some (Value.int .i64 t.2)) (bestB_f (sc := (fineC n rs g m fs lo hi es)) h79).symm, ?_⟩)) (by repeat (first | exact .z | apply Rems.s Rem.z | apply Rems.s (Rem.s Rem.z) | apply Rems.s (Rem.s (Rem.s Rem.z)) | apply Rems.s (Rem.s (Rem.s (Rem.s Rem.z))) | apply Rems.s (Rem.s (Rem.s (Rem.s (Rem.s Rem.z)))) | apply Rems.s (Rem.s (Rem.s (Rem.s (Rem.s (Rem.s Rem.z))))) | apply Rems.s (Rem.s (Rem.s (Rem.s (Rem.s (Rem.s (Rem.s Rem.z)))))) | apply Rems.s (Rem.s (Rem.s (Rem.s (Rem.s (Rem.s (Rem.s (Rem.s Rem.z))))))) | apply Rems.s (Rem.s (Rem.s (Rem.s (Rem.s (Rem.s (Rem.s (Rem.s (Rem.s Rem.z)))))))) | apply Rems.s (Rem.s (Rem.s (Rem.s (Rem.s (Rem.s (Rem.s (Rem.s (Rem.s (Rem.s Rem.z)))))))))))
                          · first
                            | (exfalso; first | omega | (simp_all; done) | (simp_all; omega))
                            |
                              refine R_nil ?_
                              refine K_tn ?_
                              refine K_cond_f rfl ?_
                              refine K_skip ?_
                              refine K_bn ?_
                              refine K_tn ?_
                              refine R_region ?_
                              refine r_move rfl rfl rfl ?_
                              first | refine r_addN rfl rfl rfl rfl (i64K (by omega) (by omega)) ?_ | refine r_add rfl rfl rfl rfl (i64K (by omega) (by omega)) ?_
                              refine r_assign rfl rfl rfl ?_
                              refine R_nil ?_
                              refine K_tn ?_
                              exact K_again (k + 1) (by omega) (by omega) (by repeat (first | exact trivial | refine ⟨rfl, ?_⟩ | refine ⟨congrArg (fun t : Int × Int => some (Value.int .i64 t.1)) (bestB_t (sc := (fineC n rs g m fs lo hi es)) h79).symm, ?_⟩ | refine ⟨congrArg (fun t : Int × Int => some (Value.int .i64 t.1)) (bestB_f (sc := (fineC n rs g m fs lo hi es)) h79).symm, ?_⟩ | refine ⟨congrArg (fun t : Int × Int => some (Value.int .i64 t.2)) (bestB_t (sc := (fineC n rs g m fs lo hi es)) h79).symm, ?_⟩ | refine ⟨congrArg (fun t : Int × Int => some (Value.int .i64 t.2)) (bestB_f (sc := (fineC n rs g m fs lo hi es)) h79).symm, ?_⟩)) (by repeat (first | exact .z | apply Rems.s Rem.z | apply Rems.s (Rem.s Rem.z) | apply Rems.s (Rem.s (Rem.s Rem.z)) | apply Rems.s (Rem.s (Rem.s (Rem.s Rem.z))) | apply Rems.s (Rem.s (Rem.s (Rem.s (Rem.s Rem.z)))) | apply Rems.s (Rem.s (Rem.s (Rem.s (Rem.s (Rem.s Rem.z))))) | apply Rems.s (Rem.s (Rem.s (Rem.s (Rem.s (Rem.s (Rem.s Rem.z)))))) | apply Rems.s (Rem.s (Rem.s (Rem.s (Rem.s (Rem.s (Rem.s (Rem.s Rem.z))))))) | apply Rems.s (Rem.s (Rem.s (Rem.s (Rem.s (Rem.s (Rem.s (Rem.s (Rem.s Rem.z)))))))) | apply Rems.s (Rem.s (Rem.s (Rem.s (Rem.s (Rem.s (Rem.s (Rem.s (Rem.s (Rem.s Rem.z)))))))))))
                      · first
                        | (exfalso; first | omega | (simp_all; done) | (simp_all; omega))
                        |
                          refine R_nil ?_
                          refine K_tn ?_
                          refine K_cond_f rfl ?_
                          refine K_exit ?_
                          refine K_te ?_
                          refine K_te ?_
                          refine K_be ?_
                          refine K_tn ?_
                          refine K_seq ?_
                          refine R_region ?_
                          have hkn : k = len := by omega
                          subst hkn
                          refine r_move rfl rfl rfl ?_
                          refine r_move rfl rfl rfl ?_
                          refine r_assign rfl rfl rfl ?_
                          refine r_assign rfl rfl rfl ?_
                          refine r_assign rfl rfl rfl ?_
                          refine R_nil ?_
                          refine K_tn ?_
                          refine K_ret ?_
                          refine K_done (H' := []) rfl rfl (.s (.tmp rfl) (.s (.tmp rfl) (.s (.tmp rfl) .z))) (by repeat (first | exact .z | apply Rems.s Rem.z | apply Rems.s (Rem.s Rem.z) | apply Rems.s (Rem.s (Rem.s Rem.z)) | apply Rems.s (Rem.s (Rem.s (Rem.s Rem.z))) | apply Rems.s (Rem.s (Rem.s (Rem.s (Rem.s Rem.z)))) | apply Rems.s (Rem.s (Rem.s (Rem.s (Rem.s (Rem.s Rem.z))))) | apply Rems.s (Rem.s (Rem.s (Rem.s (Rem.s (Rem.s (Rem.s Rem.z)))))) | apply Rems.s (Rem.s (Rem.s (Rem.s (Rem.s (Rem.s (Rem.s (Rem.s Rem.z))))))) | apply Rems.s (Rem.s (Rem.s (Rem.s (Rem.s (Rem.s (Rem.s (Rem.s (Rem.s Rem.z)))))))) | apply Rems.s (Rem.s (Rem.s (Rem.s (Rem.s (Rem.s (Rem.s (Rem.s (Rem.s (Rem.s Rem.z))))))))))) ?_
                          refine ⟨?_, rfl⟩
                          rw [hok, show bcRes n rs g m fs es lo hi = bestB (fineC n rs g m fs lo hi es) es.length by unfold bcRes; rw [if_pos hok]; simp, he] <;> rfl
          · first
            | (exfalso; first | omega | (simp_all; done) | (simp_all; omega))
            |
              refine r_move rfl rfl rfl ?_
              refine r_skip rfl rfl ?_
              refine r_skip rfl rfl ?_
              refine r_skip rfl rfl ?_
              refine r_pick_f rfl rfl rfl rfl ?_
              refine R_nil ?_
              refine K_tn ?_
              refine K_cond_f rfl ?_
              refine K_skip ?_
              refine K_tn ?_
              refine K_seq ?_
              refine K_seq ?_
              refine R_region ?_
              refine r_move rfl rfl rfl ?_
              refine s_neq rfl rfl rfl rfl (fun h49 => ?_) (fun h49 => ?_)
              · first
                | (exfalso; first | omega | (simp_all; done) | (simp_all; omega))
                |
                  refine R_nil ?_
                  refine K_tn ?_
                  refine K_cond_t rfl ?_
                  refine K_seq ?_
                  refine R_region ?_
                  refine r_move rfl rfl rfl ?_
                  refine r_assign rfl rfl rfl ?_
                  refine r_assign rfl rfl rfl ?_
                  refine r_assign rfl rfl rfl ?_
                  refine R_nil ?_
                  refine K_tn ?_
                  refine K_ret ?_
                  refine K_tr ?_
                  refine K_done (H' := []) rfl rfl (.s (.tmp rfl) (.s (.tmp rfl) (.s (.tmp rfl) .z))) (by repeat (first | exact .z | apply Rems.s Rem.z | apply Rems.s (Rem.s Rem.z) | apply Rems.s (Rem.s (Rem.s Rem.z)) | apply Rems.s (Rem.s (Rem.s (Rem.s Rem.z))) | apply Rems.s (Rem.s (Rem.s (Rem.s (Rem.s Rem.z)))) | apply Rems.s (Rem.s (Rem.s (Rem.s (Rem.s (Rem.s Rem.z))))) | apply Rems.s (Rem.s (Rem.s (Rem.s (Rem.s (Rem.s (Rem.s Rem.z)))))) | apply Rems.s (Rem.s (Rem.s (Rem.s (Rem.s (Rem.s (Rem.s (Rem.s Rem.z))))))) | apply Rems.s (Rem.s (Rem.s (Rem.s (Rem.s (Rem.s (Rem.s (Rem.s (Rem.s Rem.z)))))))) | apply Rems.s (Rem.s (Rem.s (Rem.s (Rem.s (Rem.s (Rem.s (Rem.s (Rem.s (Rem.s Rem.z))))))))))) ?_
                  refine ⟨?_, rfl⟩
                  rw [hok, show bcRes n rs g m fs es lo hi = bestB (fineC n rs g m fs lo hi es) es.length by unfold bcRes; rw [if_pos hok]; simp, he] <;> rfl
              · first
                | (exfalso; first | omega | (simp_all; done) | (simp_all; omega))
                |
                  refine R_nil ?_
                  refine K_tn ?_
                  refine K_cond_f rfl ?_
                  refine K_skip ?_
                  refine K_tn ?_
                  refine K_seq ?_
                  refine R_region ?_
                  refine r_assign rfl rfl rfl ?_
                  refine R_nil ?_
                  refine K_tn ?_
                  refine K_seq ?_
                  refine R_region ?_
                  refine r_assign rfl rfl rfl ?_
                  refine R_nil ?_
                  refine K_tn ?_
                  refine K_seq ?_
                  refine K_seq ?_
                  refine R_region ?_
                  refine r_assign rfl rfl rfl ?_
                  refine R_nil ?_
                  refine K_tn ?_
                  refine K_block ?_
                  refine K_loop (fun (k : Nat) => k ≤ len) (fun k => [(1, .float .f32 g), (3, .slice (some ⟨b, 0, none⟩) len cap), (4, .float .f32 lo), (5, .float .f32 hi), (6, .pointer (some ⟨b6, 0, none⟩)), (8, .pointer (some ⟨b8, 0, none⟩)), (17, .int .i64 (bestB (fineC n rs g m fs lo hi es) k).1), (18, .int .i64 (bestB (fineC n rs g m fs lo hi es) k).2), (19, .int .i64 (k : Int))]) (fun _ => [(b6, .cells (.int .i8 (n : Int) :: fl .f32 rs).toArray 28 (0, 0)), (b8, .cells (.int .i8 (m : Int) :: fl .f32 fs).toArray 54 (0, 0))]) (fun k => len - k) 0 (by omega) (by repeat (first | exact trivial | refine ⟨rfl, ?_⟩)) (by repeat (first | exact .z | apply Rems.s Rem.z | apply Rems.s (Rem.s Rem.z) | apply Rems.s (Rem.s (Rem.s Rem.z)) | apply Rems.s (Rem.s (Rem.s (Rem.s Rem.z))) | apply Rems.s (Rem.s (Rem.s (Rem.s (Rem.s Rem.z)))) | apply Rems.s (Rem.s (Rem.s (Rem.s (Rem.s (Rem.s Rem.z))))) | apply Rems.s (Rem.s (Rem.s (Rem.s (Rem.s (Rem.s (Rem.s Rem.z)))))) | apply Rems.s (Rem.s (Rem.s (Rem.s (Rem.s (Rem.s (Rem.s (Rem.s Rem.z))))))) | apply Rems.s (Rem.s (Rem.s (Rem.s (Rem.s (Rem.s (Rem.s (Rem.s (Rem.s Rem.z)))))))) | apply Rems.s (Rem.s (Rem.s (Rem.s (Rem.s (Rem.s (Rem.s (Rem.s (Rem.s (Rem.s Rem.z))))))))))) (fun k hp => ?_)
                  refine K_seq ?_
                  refine K_seq ?_
                  refine R_region ?_
                  refine r_move rfl rfl rfl ?_
                  refine r_move rfl rfl rfl ?_
                  refine r_lenS sl_47 rfl rfl rfl ?_
                  refine s_lss rfl rfl rfl rfl (fun h54 => ?_) (fun h54 => ?_)
                  · first
                    | (exfalso; first | omega | (simp_all; done) | (simp_all; omega))
                    |
                      refine R_nil ?_
                      refine K_tn ?_
                      refine K_cond_t rfl ?_
                      refine K_skip ?_
                      refine K_tn ?_
                      refine K_seq ?_
                      refine K_block ?_
                      refine K_seq ?_
                      refine R_region ?_
                      have hle1 := filterI_le m (isEarly (arrF n rs (es.getD k 0) g) fs hi)
                      have hle2 := filterI_le m (isLate (arrF n rs (es.getD k 0) g) fs lo)
                      have hck := hpc k (by omega)
                      have hokk := okC_mk (rs := rs) hvm hv hck hg hpl hph
                      refine r_move rfl rfl rfl ?_
                      refine r_move rfl rfl rfl ?_
                      refine r_indexS sl_47 sz_23 rfl rfl rfl rfl (by omega) ?_
                      refine r_load ag_23 rfl rfl rfl (by first | exact .h .z | exact .h (.s .z) | exact .h (.s (.s .z)) | exact .h (.s (.s (.s .z))) | exact .h (.s (.s (.s (.s .z)))) | exact .h (.s (.s (.s (.s (.s .z))))) | exact .h (.s (.s (.s (.s (.s (.s .z)))))) | exact .h (.s (.s (.s (.s (.s (.s (.s .z))))))) | exact .h (.s (.s (.s (.s (.s (.s (.s (.s .z)))))))) | exact .x .z | exact .x (.s .z) | exact .x (.s (.s .z)) | exact .x (.s (.s (.s .z))) | exact .x (.s (.s (.s (.s .z)))) | exact .x (.s (.s (.s (.s (.s .z))))) | exact .x (.s (.s (.s (.s (.s (.s .z))))))) (by first | rfl | exact gC (by omega) | exact takeC (by omega) | exact takeC0 (by omega) | exact gF (by omega)) ?_
                      refine r_move rfl rfl rfl ?_
                      refine r_move rfl rfl rfl ?_
                      refine r_move rfl rfl rfl ?_
                      refine r_callR cb_85 rfl rfl rfl rfl rfl (l04Sorted _ n rs hl hn _ _ _ m fs hf hm _ _ (es.getD k 0) g lo hi hv hck hg hvm) (by repeat (first | exact .z | refine .s (.h .z) ?_ | refine .s (.h (.s .z)) ?_ | refine .s (.h (.s (.s .z))) ?_ | refine .s (.h (.s (.s (.s .z)))) ?_ | refine .s (.h (.s (.s (.s (.s .z))))) ?_ | refine .s (.h (.s (.s (.s (.s (.s .z)))))) ?_ | refine .s (.h (.s (.s (.s (.s (.s (.s .z))))))) ?_ | refine .s (.h (.s (.s (.s (.s (.s (.s (.s .z)))))))) ?_ | refine .s (.h (.s (.s (.s (.s (.s (.s (.s (.s .z))))))))) ?_ | refine .s (.x .z) ?_ | refine .s (.x (.s .z)) ?_ | refine .s (.x (.s (.s .z))) ?_ | refine .s (.x (.s (.s (.s .z)))) ?_ | refine .s (.x (.s (.s (.s (.s .z))))) ?_ | refine .s (.x (.s (.s (.s (.s (.s .z)))))) ?_ | refine .s (.x (.s (.s (.s (.s (.s (.s .z))))))) ?_)) ?_
                      rintro _ _ ⟨p, q, rfl, hq1, hq2, rfl⟩
                      refine r_move rfl rfl rfl ?_
                      refine r_extract rfl rfl rfl rfl ?_
                      refine r_extract rfl rfl rfl rfl ?_
                      refine r_assign rfl rfl rfl ?_
                      refine r_assign rfl rfl rfl ?_
                      refine R_nil ?_
                      refine K_tn ?_
                      refine K_seq ?_
                      refine R_region ?_
                      refine r_fieldAddr fd_54_0 rfl rfl rfl ?_
                      refine r_load ag_22 rfl rfl rfl (by first | exact .h .z | exact .h (.s .z) | exact .h (.s (.s .z)) | exact .h (.s (.s (.s .z))) | exact .h (.s (.s (.s (.s .z)))) | exact .h (.s (.s (.s (.s (.s .z))))) | exact .h (.s (.s (.s (.s (.s (.s .z)))))) | exact .h (.s (.s (.s (.s (.s (.s (.s .z))))))) | exact .h (.s (.s (.s (.s (.s (.s (.s (.s .z)))))))) | exact .x .z | exact .x (.s .z) | exact .x (.s (.s .z)) | exact .x (.s (.s (.s .z))) | exact .x (.s (.s (.s (.s .z)))) | exact .x (.s (.s (.s (.s (.s .z))))) | exact .x (.s (.s (.s (.s (.s (.s .z))))))) (by first | rfl | exact gC (by omega) | exact takeC (by omega) | exact takeC0 (by omega) | exact gF (by omega)) ?_
                      refine r_convI ⟨_, un_22⟩ un_2 rfl rfl rfl (i64K (by omega) (by omega)) ?_
                      refine r_move rfl rfl rfl ?_
                      refine r_lenS sl_60 rfl rfl rfl ?_
                      refine r_sub rfl rfl rfl rfl (i64K (by omega) (by omega)) ?_
                      refine r_move rfl rfl rfl ?_
                      refine r_lenS sl_60 rfl rfl rfl ?_
                      refine r_sub rfl rfl rfl rfl (i64K (by omega) (by omega)) ?_
                      refine r_assign rfl rfl rfl ?_
                      refine R_nil ?_
                      refine K_tn ?_
                      refine K_seq ?_
                      refine R_region ?_
                      refine r_move rfl rfl rfl ?_
                      refine r_move rfl rfl rfl ?_
                      refine s_gtr rfl rfl rfl rfl (fun h79 => ?_) (fun h79 => ?_)
                      · first
                        | (exfalso; first | omega | (simp_all; done) | (simp_all; omega))
                        |
                          refine R_nil ?_
                          refine K_tn ?_
                          refine K_cond_t rfl ?_
                          refine K_seq ?_
                          refine R_region ?_
                          refine r_move rfl rfl rfl ?_
                          refine r_assign rfl rfl rfl ?_
                          refine R_nil ?_
                          refine K_tn ?_
                          refine R_region ?_
                          refine r_move rfl rfl rfl ?_
                          refine r_assign rfl rfl rfl ?_
                          refine R_nil ?_
                          refine K_bn ?_
                          refine K_tn ?_
                          refine R_region ?_
                          refine r_move rfl rfl rfl ?_
                          first | refine r_addN rfl rfl rfl rfl (i64K (by omega) (by omega)) ?_ | refine r_add rfl rfl rfl rfl (i64K (by omega) (by omega)) ?_
                          refine r_assign rfl rfl rfl ?_
                          refine R_nil ?_
                          refine K_tn ?_
                          exact K_again (k + 1) (by omega) (by omega) (by repeat (first | exact trivial | refine ⟨rfl, ?_⟩ | refine ⟨congrArg (fun t : Int × Int => some (Value.int .i64 t.1)) (bestB_t (sc := (fineC n rs g m fs lo hi es)) h79).symm, ?_⟩ | refine ⟨congrArg (fun t : Int × Int => some (Value.int .i64 t.1)) (bestB_f (sc := (fineC n rs g m fs lo hi es)) h79).symm, ?_⟩ | refine ⟨congrArg (fun t : Int × Int => some (Value.int .i64 t.2)) (bestB_t (sc := (fineC n rs g m fs lo hi es)) h79).symm, ?_⟩ | refine ⟨congrArg (fun t : Int × Int => some (Value.int .i64 t.2)) (bestB_f (sc := (fineC n rs g m fs lo hi es)) h79).symm, ?_⟩)) (by repeat (first | exact .z | apply Rems.s Rem.z | apply Rems.s (Rem.s Rem.z) | apply Rems.s (Rem.s (Rem.s Rem.z)) | apply Rems.s (Rem.s (Rem.s (Rem.s Rem.z))) | apply Rems.s (Rem.s (Rem.s (Rem.s (Rem.s Rem.z)))) | apply Rems.s (Rem.s (Rem.s (Rem.s (Rem.s (Rem.s Rem.z))))) | apply Rems.s (Rem.s (Rem.s (Rem.s (Rem.s (Rem.s (Rem.s Rem.z)))))) | apply Rems.s (Rem.s (Rem.s (Rem.s (Rem.s (Rem.s (Rem.s (Rem.s Rem.z))))))) | apply Rems.s (Rem.s (Rem.s (Rem.s (Rem.s (Rem.s (Rem.s (Rem.s (Rem.s Rem.z)))))))) | apply Rems.s (Rem.s (Rem.s (Rem.s (Rem.s (Rem.s (Rem.s (Rem.s (Rem.s (Rem.s Rem.z)))))))))))
                      · first
                        | (exfalso; first | omega | (simp_all; done) | (simp_all; omega))
                        |
                          refine R_nil ?_
                          refine K_tn ?_
                          refine K_cond_f rfl ?_
                          refine K_skip ?_
                          refine K_bn ?_
                          refine K_tn ?_
                          refine R_region ?_
                          refine r_move rfl rfl rfl ?_
                          first | refine r_addN rfl rfl rfl rfl (i64K (by omega) (by omega)) ?_ | refine r_add rfl rfl rfl rfl (i64K (by omega) (by omega)) ?_
                          refine r_assign rfl rfl rfl ?_
                          refine R_nil ?_
                          refine K_tn ?_
                          exact K_again (k + 1) (by omega) (by omega) (by repeat (first | exact trivial | refine ⟨rfl, ?_⟩ | refine ⟨congrArg (fun t : Int × Int => some (Value.int .i64 t.1)) (bestB_t (sc := (fineC n rs g m fs lo hi es)) h79).symm, ?_⟩ | refine ⟨congrArg (fun t : Int × Int => some (Value.int .i64 t.1)) (bestB_f (sc := (fineC n rs g m fs lo hi es)) h79).symm, ?_⟩ | refine ⟨congrArg (fun t : Int × Int => some (Value.int .i64 t.2)) (bestB_t (sc := (fineC n rs g m fs lo hi es)) h79).symm, ?_⟩ | refine ⟨congrArg (fun t : Int × Int => some (Value.int .i64 t.2)) (bestB_f (sc := (fineC n rs g m fs lo hi es)) h79).symm, ?_⟩)) (by repeat (first | exact .z | apply Rems.s Rem.z | apply Rems.s (Rem.s Rem.z) | apply Rems.s (Rem.s (Rem.s Rem.z)) | apply Rems.s (Rem.s (Rem.s (Rem.s Rem.z))) | apply Rems.s (Rem.s (Rem.s (Rem.s (Rem.s Rem.z)))) | apply Rems.s (Rem.s (Rem.s (Rem.s (Rem.s (Rem.s Rem.z))))) | apply Rems.s (Rem.s (Rem.s (Rem.s (Rem.s (Rem.s (Rem.s Rem.z)))))) | apply Rems.s (Rem.s (Rem.s (Rem.s (Rem.s (Rem.s (Rem.s (Rem.s Rem.z))))))) | apply Rems.s (Rem.s (Rem.s (Rem.s (Rem.s (Rem.s (Rem.s (Rem.s (Rem.s Rem.z)))))))) | apply Rems.s (Rem.s (Rem.s (Rem.s (Rem.s (Rem.s (Rem.s (Rem.s (Rem.s (Rem.s Rem.z)))))))))))
                  · first
                    | (exfalso; first | omega | (simp_all; done) | (simp_all; omega))
                    |
                      refine R_nil ?_
                      refine K_tn ?_
                      refine K_cond_f rfl ?_
                      refine K_exit ?_
                      refine K_te ?_
                      refine K_te ?_
                      refine K_be ?_
                      refine K_tn ?_
                      refine K_seq ?_
                      refine R_region ?_
                      have hkn : k = len := by omega
                      subst hkn
                      refine r_move rfl rfl rfl ?_
                      refine r_move rfl rfl rfl ?_
                      refine r_assign rfl rfl rfl ?_
                      refine r_assign rfl rfl rfl ?_
                      refine r_assign rfl rfl rfl ?_
                      refine R_nil ?_
                      refine K_tn ?_
                      refine K_ret ?_
                      refine K_done (H' := []) rfl rfl (.s (.tmp rfl) (.s (.tmp rfl) (.s (.tmp rfl) .z))) (by repeat (first | exact .z | apply Rems.s Rem.z | apply Rems.s (Rem.s Rem.z) | apply Rems.s (Rem.s (Rem.s Rem.z)) | apply Rems.s (Rem.s (Rem.s (Rem.s Rem.z))) | apply Rems.s (Rem.s (Rem.s (Rem.s (Rem.s Rem.z)))) | apply Rems.s (Rem.s (Rem.s (Rem.s (Rem.s (Rem.s Rem.z))))) | apply Rems.s (Rem.s (Rem.s (Rem.s (Rem.s (Rem.s (Rem.s Rem.z)))))) | apply Rems.s (Rem.s (Rem.s (Rem.s (Rem.s (Rem.s (Rem.s (Rem.s Rem.z))))))) | apply Rems.s (Rem.s (Rem.s (Rem.s (Rem.s (Rem.s (Rem.s (Rem.s (Rem.s Rem.z)))))))) | apply Rems.s (Rem.s (Rem.s (Rem.s (Rem.s (Rem.s (Rem.s (Rem.s (Rem.s (Rem.s Rem.z))))))))))) ?_
                      refine ⟨?_, rfl⟩
                      rw [hok, show bcRes n rs g m fs es lo hi = bestB (fineC n rs g m fs lo hi es) es.length by unfold bcRes; rw [if_pos hok]; simp, he] <;> rfl
  · first
    | (exfalso; first | omega | (simp_all; done) | (simp_all; omega))
    |
      refine r_move rfl rfl rfl ?_
      refine r_skip rfl rfl ?_
      refine r_skip rfl rfl ?_
      refine r_skip rfl rfl ?_
      refine r_pick_f rfl rfl rfl rfl ?_
      refine R_nil ?_
      refine K_tn ?_
      refine K_cond_f rfl ?_
      refine K_skip ?_
      refine K_tn ?_
      refine K_seq ?_
      refine K_seq ?_
      refine R_region ?_
      refine r_move rfl rfl rfl ?_
      refine s_eql rfl rfl rfl rfl (fun h42 => ?_) (fun h42 => ?_)
      · first
        | (exfalso; first | omega | (simp_all; done) | (simp_all; omega))
        |
          refine r_move rfl rfl rfl ?_
          refine r_move rfl rfl rfl ?_
          refine r_lenS sl_47 rfl rfl rfl ?_
          refine s_eql rfl rfl rfl rfl (fun h46 => ?_) (fun h46 => ?_)
          · first
            | (exfalso; first | omega | (simp_all; done) | (simp_all; omega))
            |
              refine r_pick_t rfl rfl rfl rfl ?_
              refine R_nil ?_
              refine K_tn ?_
              refine K_cond_t rfl ?_
              refine R_region ?_
              refine r_assign rfl rfl rfl ?_
              refine R_nil ?_
              refine K_tn ?_
              refine K_seq ?_
              refine K_seq ?_
              refine R_region ?_
              refine r_move rfl rfl rfl ?_
              refine s_neq rfl rfl rfl rfl (fun h49 => ?_) (fun h49 => ?_)
              · first
                | (exfalso; first | omega | (simp_all; done) | (simp_all; omega))
                |
                  refine R_nil ?_
                  refine K_tn ?_
                  refine K_cond_t rfl ?_
                  refine K_seq ?_
                  refine R_region ?_
                  refine r_move rfl rfl rfl ?_
                  refine r_assign rfl rfl rfl ?_
                  refine r_assign rfl rfl rfl ?_
                  refine r_assign rfl rfl rfl ?_
                  refine R_nil ?_
                  refine K_tn ?_
                  refine K_ret ?_
                  refine K_tr ?_
                  refine K_done (H' := []) rfl rfl (.s (.tmp rfl) (.s (.tmp rfl) (.s (.tmp rfl) .z))) (by repeat (first | exact .z | apply Rems.s Rem.z | apply Rems.s (Rem.s Rem.z) | apply Rems.s (Rem.s (Rem.s Rem.z)) | apply Rems.s (Rem.s (Rem.s (Rem.s Rem.z))) | apply Rems.s (Rem.s (Rem.s (Rem.s (Rem.s Rem.z)))) | apply Rems.s (Rem.s (Rem.s (Rem.s (Rem.s (Rem.s Rem.z))))) | apply Rems.s (Rem.s (Rem.s (Rem.s (Rem.s (Rem.s (Rem.s Rem.z)))))) | apply Rems.s (Rem.s (Rem.s (Rem.s (Rem.s (Rem.s (Rem.s (Rem.s Rem.z))))))) | apply Rems.s (Rem.s (Rem.s (Rem.s (Rem.s (Rem.s (Rem.s (Rem.s (Rem.s Rem.z)))))))) | apply Rems.s (Rem.s (Rem.s (Rem.s (Rem.s (Rem.s (Rem.s (Rem.s (Rem.s (Rem.s Rem.z))))))))))) ?_
                  refine ⟨?_, rfl⟩
                  rw [hok, show bcRes n rs g m fs es lo hi = bestB (fineC n rs g m fs lo hi es) es.length by unfold bcRes; rw [if_pos hok]; simp, he] <;> rfl
              · first
                | (exfalso; first | omega | (simp_all; done) | (simp_all; omega))
                |
                  refine R_nil ?_
                  refine K_tn ?_
                  refine K_cond_f rfl ?_
                  refine K_skip ?_
                  refine K_tn ?_
                  refine K_seq ?_
                  refine R_region ?_
                  refine r_assign rfl rfl rfl ?_
                  refine R_nil ?_
                  refine K_tn ?_
                  refine K_seq ?_
                  refine R_region ?_
                  refine r_assign rfl rfl rfl ?_
                  refine R_nil ?_
                  refine K_tn ?_
                  refine K_seq ?_
                  refine K_seq ?_
                  refine R_region ?_
                  refine r_assign rfl rfl rfl ?_
                  refine R_nil ?_
                  refine K_tn ?_
                  refine K_block ?_
                  refine K_loop (fun (k : Nat) => k ≤ len) (fun k => [(1, .float .f32 g), (3, .slice (some ⟨b, 0, none⟩) len cap), (4, .float .f32 lo), (5, .float .f32 hi), (6, .pointer (some ⟨b6, 0, none⟩)), (8, .pointer (some ⟨b8, 0, none⟩)), (17, .int .i64 (bestB (fineC n rs g m fs lo hi es) k).1), (18, .int .i64 (bestB (fineC n rs g m fs lo hi es) k).2), (19, .int .i64 (k : Int))]) (fun _ => [(b6, .cells (.int .i8 (n : Int) :: fl .f32 rs).toArray 28 (0, 0)), (b8, .cells (.int .i8 (m : Int) :: fl .f32 fs).toArray 54 (0, 0))]) (fun k => len - k) 0 (by omega) (by repeat (first | exact trivial | refine ⟨rfl, ?_⟩)) (by repeat (first | exact .z | apply Rems.s Rem.z | apply Rems.s (Rem.s Rem.z) | apply Rems.s (Rem.s (Rem.s Rem.z)) | apply Rems.s (Rem.s (Rem.s (Rem.s Rem.z))) | apply Rems.s (Rem.s (Rem.s (Rem.s (Rem.s Rem.z)))) | apply Rems.s (Rem.s (Rem.s (Rem.s (Rem.s (Rem.s Rem.z))))) | apply Rems.s (Rem.s (Rem.s (Rem.s (Rem.s (Rem.s (Rem.s Rem.z)))))) | apply Rems.s (Rem.s (Rem.s (Rem.s (Rem.s (Rem.s (Rem.s (Rem.s Rem.z))))))) | apply Rems.s (Rem.s (Rem.s (Rem.s (Rem.s (Rem.s (Rem.s (Rem.s (Rem.s Rem.z)))))))) | apply Rems.s (Rem.s (Rem.s (Rem.s (Rem.s (Rem.s (Rem.s (Rem.s (Rem.s (Rem.s Rem.z))))))))))) (fun k hp => ?_)
                  refine K_seq ?_
                  refine K_seq ?_
                  refine R_region ?_
                  refine r_move rfl rfl rfl ?_
                  refine r_move rfl rfl rfl ?_
                  refine r_lenS sl_47 rfl rfl rfl ?_
                  refine s_lss rfl rfl rfl rfl (fun h54 => ?_) (fun h54 => ?_)
                  · first
                    | (exfalso; first | omega | (simp_all; done) | (simp_all; omega))
                    |
                      refine R_nil ?_
                      refine K_tn ?_
                      refine K_cond_t rfl ?_
                      refine K_skip ?_
                      refine K_tn ?_
                      refine K_seq ?_
                      refine K_block ?_
                      refine K_seq ?_
                      refine R_region ?_
                      have hle1 := filterI_le m (isEarly (arrF n rs (es.getD k 0) g) fs hi)
                      have hle2 := filterI_le m (isLate (arrF n rs (es.getD k 0) g) fs lo)
                      have hck := hpc k (by omega)
                      have hokk := okC_mk (rs := rs) hvm hv hck hg hpl hph
                      refine r_move rfl rfl rfl ?_
                      refine r_move rfl rfl rfl ?_
                      refine r_indexS sl_47 sz_23 rfl rfl rfl rfl (by omega) ?_
                      refine r_load ag_23 rfl rfl rfl (by first | exact .h .z | exact .h (.s .z) | exact .h (.s (.s .z)) | exact .h (.s (.s (.s .z))) | exact .h (.s (.s (.s (.s .z)))) | exact .h (.s (.s (.s (.s (.s .z))))) | exact .h (.s (.s (.s (.s (.s (.s .z)))))) | exact .h (.s (.s (.s (.s (.s (.s (.s .z))))))) | exact .h (.s (.s (.s (.s (.s (.s (.s (.s .z)))))))) | exact .x .z | exact .x (.s .z) | exact .x (.s (.s .z)) | exact .x (.s (.s (.s .z))) | exact .x (.s (.s (.s (.s .z)))) | exact .x (.s (.s (.s (.s (.s .z))))) | exact .x (.s (.s (.s (.s (.s (.s .z))))))) (by first | rfl | exact gC (by omega) | exact takeC (by omega) | exact takeC0 (by omega) | exact gF (by omega)) ?_
                      refine r_move rfl rfl rfl ?_
                      refine r_move rfl rfl rfl ?_
                      refine r_move rfl rfl rfl ?_
                      refine r_callR cb_85 rfl rfl rfl rfl rfl (l04Sorted _ n rs hl hn _ _ _ m fs hf hm _ _ (es.getD k 0) g lo hi hv hck hg hvm) (by repeat (first | exact .z | refine .s (.h .z) ?_ | refine .s (.h (.s .z)) ?_ | refine .s (.h (.s (.s .z))) ?_ | refine .s (.h (.s (.s (.s .z)))) ?_ | refine .s (.h (.s (.s (.s (.s .z))))) ?_ | refine .s (.h (.s (.s (.s (.s (.s .z)))))) ?_ | refine .s (.h (.s (.s (.s (.s (.s (.s .z))))))) ?_ | refine .s (.h (.s (.s (.s (.s (.s (.s (.s .z)))))))) ?_ | refine .s (.h (.s (.s (.s (.s (.s (.s (.s (.s .z))))))))) ?_ | refine .s (.x .z) ?_ | refine .s (.x (.s .z)) ?_ | refine .s (.x (.s (.s .z))) ?_ | refine .s (.x (.s (.s (.s .z)))) ?_ | refine .s (.x (.s (.s (.s (.s .z))))) ?_ | refine .s (.x (.s (.s (.s (.s (.s .z)))))) ?_ | refine .s (.x (.s (.s (.s (.s (.s (.s .z))))))) ?_)) ?_
                      rintro _ _ ⟨p, q, rfl, hq1, hq2, rfl⟩
                      refine r_move rfl rfl rfl ?_
                      refine r_extract rfl rfl rfl rfl ?_
                      refine r_extract rfl rfl rfl rfl ?_
                      refine r_assign rfl rfl rfl ?_
                      refine r_assign rfl rfl rfl ?_
                      refine R_nil ?_
                      refine K_tn ?_
                      refine K_seq ?_
                      refine R_region ?_
                      refine r_fieldAddr fd_54_0 rfl rfl rfl ?_
                      refine r_load ag_22 rfl rfl rfl (by first | exact .h .z | exact .h (.s .z) | exact .h (.s (.s .z)) | exact .h (.s (.s (.s .z))) | exact .h (.s (.s (.s (.s .z)))) | exact .h (.s (.s (.s (.s (.s .z))))) | exact .h (.s (.s (.s (.s (.s (.s .z)))))) | exact .h (.s (.s (.s (.s (.s (.s (.s .z))))))) | exact .h (.s (.s (.s (.s (.s (.s (.s (.s .z)))))))) | exact .x .z | exact .x (.s .z) | exact .x (.s (.s .z)) | exact .x (.s (.s (.s .z))) | exact .x (.s (.s (.s (.s .z)))) | exact .x (.s (.s (.s (.s (.s .z))))) | exact .x (.s (.s (.s (.s (.s (.s .z))))))) (by first | rfl | exact gC (by omega) | exact takeC (by omega) | exact takeC0 (by omega) | exact gF (by omega)) ?_
                      refine r_convI ⟨_, un_22⟩ un_2 rfl rfl rfl (i64K (by omega) (by omega)) ?_
                      refine r_move rfl rfl rfl ?_
                      refine r_lenS sl_60 rfl rfl rfl ?_
                      refine r_sub rfl rfl rfl rfl (i64K (by omega) (by omega)) ?_
                      refine r_move rfl rfl rfl ?_
                      refine r_lenS sl_60 rfl rfl rfl ?_
                      refine r_sub rfl rfl rfl rfl (i64K (by omega) (by omega)) ?_
                      refine r_assign rfl rfl rfl ?_
                      refine R_nil ?_
                      refine K_tn ?_
                      refine K_seq ?_
                      refine R_region ?_
                      refine r_move rfl rfl rfl ?_
                      refine r_move rfl rfl rfl ?_
                      refine s_gtr rfl rfl rfl rfl (fun h79 => ?_) (fun h79 => ?_)
                      · first
                        | (exfalso; first | omega | (simp_all; done) | (simp_all; omega))
                        |
                          refine R_nil ?_
                          refine K_tn ?_
                          refine K_cond_t rfl ?_
                          refine K_seq ?_
                          refine R_region ?_
                          refine r_move rfl rfl rfl ?_
                          refine r_assign rfl rfl rfl ?_
                          refine R_nil ?_
                          refine K_tn ?_
                          refine R_region ?_
                          refine r_move rfl rfl rfl ?_
                          refine r_assign rfl rfl rfl ?_
                          refine R_nil ?_
                          refine K_bn ?_
                          refine K_tn ?_
                          refine R_region ?_
                          refine r_move rfl rfl rfl ?_
                          first | refine r_addN rfl rfl rfl rfl (i64K (by omega) (by omega)) ?_ | refine r_add rfl rfl rfl rfl (i64K (by omega) (by omega)) ?_
                          refine r_assign rfl rfl rfl ?_
                          refine R_nil ?_
                          refine K_tn ?_
                          exact K_again (k + 1) (by omega) (by omega) (by repeat (first | exact trivial | refine ⟨rfl, ?_⟩ | refine ⟨congrArg (fun t : Int × Int => some (Value.int .i64 t.1)) (bestB_t (sc := (fineC n rs g m fs lo hi es)) h79).symm, ?_⟩ | refine ⟨congrArg (fun t : Int × Int => some (Value.int .i64 t.1)) (bestB_f (sc := (fineC n rs g m fs lo hi es)) h79).symm, ?_⟩ | refine ⟨congrArg (fun t : Int × Int => some (Value.int .i64 t.2)) (bestB_t (sc := (fineC n rs g m fs lo hi es)) h79).symm, ?_⟩ | refine ⟨congrArg (fun t : Int × Int => some (Value.int .i64 t.2)) (bestB_f (sc := (fineC n rs g m fs lo hi es)) h79).symm, ?_⟩)) (by repeat (first | exact .z | apply Rems.s Rem.z | apply Rems.s (Rem.s Rem.z) | apply Rems.s (Rem.s (Rem.s Rem.z)) | apply Rems.s (Rem.s (Rem.s (Rem.s Rem.z))) | apply Rems.s (Rem.s (Rem.s (Rem.s (Rem.s Rem.z)))) | apply Rems.s (Rem.s (Rem.s (Rem.s (Rem.s (Rem.s Rem.z))))) | apply Rems.s (Rem.s (Rem.s (Rem.s (Rem.s (Rem.s (Rem.s Rem.z)))))) | apply Rems.s (Rem.s (Rem.s (Rem.s (Rem.s (Rem.s (Rem.s (Rem.s Rem.z))))))) | apply Rems.s (Rem.s (Rem.s (Rem.s (Rem.s (Rem.s (Rem.s (Rem.s (Rem.s Rem.z)))))))) | apply Rems.s (Rem.s (Rem.s (Rem.s (Rem.s (Rem.s (Rem.s (Rem.s (Rem.s (Rem.s Rem.z)))))))))))
                      · first
                        | (exfalso; first | omega | (simp_all; done) | (simp_all; omega))
                        |
                          refine R_nil ?_
                          refine K_tn ?_
                          refine K_cond_f rfl ?_
                          refine K_skip ?_
                          refine K_bn ?_
                          refine K_tn ?_
                          refine R_region ?_
                          refine r_move rfl rfl rfl ?_
                          first | refine r_addN rfl rfl rfl rfl (i64K (by omega) (by omega)) ?_ | refine r_add rfl rfl rfl rfl (i64K (by omega) (by omega)) ?_
                          refine r_assign rfl rfl rfl ?_
                          refine R_nil ?_
                          refine K_tn ?_
                          exact K_again (k + 1) (by omega) (by omega) (by repeat (first | exact trivial | refine ⟨rfl, ?_⟩ | refine ⟨congrArg (fun t : Int × Int => some (Value.int .i64 t.1)) (bestB_t (sc := (fineC n rs g m fs lo hi es)) h79).symm, ?_⟩ | refine ⟨congrArg (fun t : Int × Int => some (Value.int .i64 t.1)) (bestB_f (sc := (fineC n rs g m fs lo hi es)) h79).symm, ?_⟩ | refine ⟨congrArg (fun t : Int × Int => some (Value.int .i64 t.2)) (bestB_t (sc := (fineC n rs g m fs lo hi es)) h79).symm, ?_⟩ | refine ⟨congrArg (fun t : Int × Int => some (Value.int .i64 t.2)) (bestB_f (sc := (fineC n rs g m fs lo hi es)) h79).symm, ?_⟩)) (by repeat (first | exact .z | apply Rems.s Rem.z | apply Rems.s (Rem.s Rem.z) | apply Rems.s (Rem.s (Rem.s Rem.z)) | apply Rems.s (Rem.s (Rem.s (Rem.s Rem.z))) | apply Rems.s (Rem.s (Rem.s (Rem.s (Rem.s Rem.z)))) | apply Rems.s (Rem.s (Rem.s (Rem.s (Rem.s (Rem.s Rem.z))))) | apply Rems.s (Rem.s (Rem.s (Rem.s (Rem.s (Rem.s (Rem.s Rem.z)))))) | apply Rems.s (Rem.s (Rem.s (Rem.s (Rem.s (Rem.s (Rem.s (Rem.s Rem.z))))))) | apply Rems.s (Rem.s (Rem.s (Rem.s (Rem.s (Rem.s (Rem.s (Rem.s (Rem.s Rem.z)))))))) | apply Rems.s (Rem.s (Rem.s (Rem.s (Rem.s (Rem.s (Rem.s (Rem.s (Rem.s (Rem.s Rem.z)))))))))))
                  · first
                    | (exfalso; first | omega | (simp_all; done) | (simp_all; omega))
                    |
                      refine R_nil ?_
                      refine K_tn ?_
                      refine K_cond_f rfl ?_
                      refine K_exit ?_
                      refine K_te ?_
                      refine K_te ?_
                      refine K_be ?_
                      refine K_tn ?_
                      refine K_seq ?_
                      refine R_region ?_
                      have hkn : k = len := by omega
                      subst hkn
                      refine r_move rfl rfl rfl ?_
                      refine r_move rfl rfl rfl ?_
                      refine r_assign rfl rfl rfl ?_
                      refine r_assign rfl rfl rfl ?_
                      refine r_assign rfl rfl rfl ?_
                      refine R_nil ?_
                      refine K_tn ?_
                      refine K_ret ?_
                      refine K_done (H' := []) rfl rfl (.s (.tmp rfl) (.s (.tmp rfl) (.s (.tmp rfl) .z))) (by repeat (first | exact .z | apply Rems.s Rem.z | apply Rems.s (Rem.s Rem.z) | apply Rems.s (Rem.s (Rem.s Rem.z)) | apply Rems.s (Rem.s (Rem.s (Rem.s Rem.z))) | apply Rems.s (Rem.s (Rem.s (Rem.s (Rem.s Rem.z)))) | apply Rems.s (Rem.s (Rem.s (Rem.s (Rem.s (Rem.s Rem.z))))) | apply Rems.s (Rem.s (Rem.s (Rem.s (Rem.s (Rem.s (Rem.s Rem.z)))))) | apply Rems.s (Rem.s (Rem.s (Rem.s (Rem.s (Rem.s (Rem.s (Rem.s Rem.z))))))) | apply Rems.s (Rem.s (Rem.s (Rem.s (Rem.s (Rem.s (Rem.s (Rem.s (Rem.s Rem.z)))))))) | apply Rems.s (Rem.s (Rem.s (Rem.s (Rem.s (Rem.s (Rem.s (Rem.s (Rem.s (Rem.s Rem.z))))))))))) ?_
                      refine ⟨?_, rfl⟩
                      rw [hok, show bcRes n rs g m fs es lo hi = bestB (fineC n rs g m fs lo hi es) es.length by unfold bcRes; rw [if_pos hok]; simp, he] <;> rfl
          · first
            | (exfalso; first | omega | (simp_all; done) | (simp_all; omega))
            |
              refine r_pick_t rfl rfl rfl rfl ?_
              refine R_nil ?_
              refine K_tn ?_
              refine K_cond_f rfl ?_
              refine K_skip ?_
              refine K_tn ?_
              refine K_seq ?_
              refine K_seq ?_
              refine R_region ?_
              refine r_move rfl rfl rfl ?_
              refine s_neq rfl rfl rfl rfl (fun h49 => ?_) (fun h49 => ?_)
              · first
                | (exfalso; first | omega | (simp_all; done) | (simp_all; omega))
                |
                  refine R_nil ?_
                  refine K_tn ?_
                  refine K_cond_t rfl ?_
                  refine K_seq ?_
                  refine R_region ?_
                  refine r_move rfl rfl rfl ?_
                  refine r_assign rfl rfl rfl ?_
                  refine r_assign rfl rfl rfl ?_
                  refine r_assign rfl rfl rfl ?_
                  refine R_nil ?_
                  refine K_tn ?_
                  refine K_ret ?_
                  refine K_tr ?_
                  refine K_done (H' := []) rfl rfl (.s (.tmp rfl) (.s (.tmp rfl) (.s (.tmp rfl) .z))) (by repeat (first | exact .z | apply Rems.s Rem.z | apply Rems.s (Rem.s Rem.z) | apply Rems.s (Rem.s (Rem.s Rem.z)) | apply Rems.s (Rem.s (Rem.s (Rem.s Rem.z))) | apply Rems.s (Rem.s (Rem.s (Rem.s (Rem.s Rem.z)))) | apply Rems.s (Rem.s (Rem.s (Rem.s (Rem.s (Rem.s Rem.z))))) | apply Rems.s (Rem.s (Rem.s (Rem.s (Rem.s (Rem.s (Rem.s Rem.z)))))) | apply Rems.s (Rem.s (Rem.s (Rem.s (Rem.s (Rem.s (Rem.s (Rem.s Rem.z))))))) | apply Rems.s (Rem.s (Rem.s (Rem.s (Rem.s (Rem.s (Rem.s (Rem.s (Rem.s Rem.z)))))))) | apply Rems.s (Rem.s (Rem.s (Rem.s (Rem.s (Rem.s (Rem.s (Rem.s (Rem.s (Rem.s Rem.z))))))))))) ?_
                  refine ⟨?_, rfl⟩
                  rw [hok, show bcRes n rs g m fs es lo hi = bestB (fineC n rs g m fs lo hi es) es.length by unfold bcRes; rw [if_pos hok]; simp, he] <;> rfl
              · first
                | (exfalso; first | omega | (simp_all; done) | (simp_all; omega))
                |
                  refine R_nil ?_
                  refine K_tn ?_
                  refine K_cond_f rfl ?_
                  refine K_skip ?_
                  refine K_tn ?_
                  refine K_seq ?_
                  refine R_region ?_
                  refine r_assign rfl rfl rfl ?_
                  refine R_nil ?_
                  refine K_tn ?_
                  refine K_seq ?_
                  refine R_region ?_
                  refine r_assign rfl rfl rfl ?_
                  refine R_nil ?_
                  refine K_tn ?_
                  refine K_seq ?_
                  refine K_seq ?_
                  refine R_region ?_
                  refine r_assign rfl rfl rfl ?_
                  refine R_nil ?_
                  refine K_tn ?_
                  refine K_block ?_
                  refine K_loop (fun (k : Nat) => k ≤ len) (fun k => [(1, .float .f32 g), (3, .slice (some ⟨b, 0, none⟩) len cap), (4, .float .f32 lo), (5, .float .f32 hi), (6, .pointer (some ⟨b6, 0, none⟩)), (8, .pointer (some ⟨b8, 0, none⟩)), (17, .int .i64 (bestB (fineC n rs g m fs lo hi es) k).1), (18, .int .i64 (bestB (fineC n rs g m fs lo hi es) k).2), (19, .int .i64 (k : Int))]) (fun _ => [(b6, .cells (.int .i8 (n : Int) :: fl .f32 rs).toArray 28 (0, 0)), (b8, .cells (.int .i8 (m : Int) :: fl .f32 fs).toArray 54 (0, 0))]) (fun k => len - k) 0 (by omega) (by repeat (first | exact trivial | refine ⟨rfl, ?_⟩)) (by repeat (first | exact .z | apply Rems.s Rem.z | apply Rems.s (Rem.s Rem.z) | apply Rems.s (Rem.s (Rem.s Rem.z)) | apply Rems.s (Rem.s (Rem.s (Rem.s Rem.z))) | apply Rems.s (Rem.s (Rem.s (Rem.s (Rem.s Rem.z)))) | apply Rems.s (Rem.s (Rem.s (Rem.s (Rem.s (Rem.s Rem.z))))) | apply Rems.s (Rem.s (Rem.s (Rem.s (Rem.s (Rem.s (Rem.s Rem.z)))))) | apply Rems.s (Rem.s (Rem.s (Rem.s (Rem.s (Rem.s (Rem.s (Rem.s Rem.z))))))) | apply Rems.s (Rem.s (Rem.s (Rem.s (Rem.s (Rem.s (Rem.s (Rem.s (Rem.s Rem.z)))))))) | apply Rems.s (Rem.s (Rem.s (Rem.s (Rem.s (Rem.s (Rem.s (Rem.s (Rem.s (Rem.s Rem.z))))))))))) (fun k hp => ?_)
                  refine K_seq ?_
                  refine K_seq ?_
                  refine R_region ?_
                  refine r_move rfl rfl rfl ?_
                  refine r_move rfl rfl rfl ?_
                  refine r_lenS sl_47 rfl rfl rfl ?_
                  refine s_lss rfl rfl rfl rfl (fun h54 => ?_) (fun h54 => ?_)
                  · first
                    | (exfalso; first | omega | (simp_all; done) | (simp_all; omega))
                    |
                      refine R_nil ?_
                      refine K_tn ?_
                      refine K_cond_t rfl ?_
                      refine K_skip ?_
                      refine K_tn ?_
                      refine K_seq ?_
                      refine K_block ?_
                      refine K_seq ?_
                      refine R_region ?_
                      have hle1 := filterI_le m (isEarly (arrF n rs (es.getD k 0) g) fs hi)
                      have hle2 := filterI_le m (isLate (arrF n rs (es.getD k 0) g) fs lo)
                      have hck := hpc k (by omega)
                      have hokk := okC_mk (rs := rs) hvm hv hck hg hpl hph
                      refine r_move rfl rfl rfl ?_
                      refine r_move rfl rfl rfl ?_
                      refine r_indexS sl_47 sz_23 rfl rfl rfl rfl (by omega) ?_
                      refine r_load ag_23 rfl rfl rfl (by first | exact .h .z | exact .h (.s .z) | exact .h (.s (.s .z)) | exact .h (.s (.s (.s .z))) | exact .h (.s (.s (.s (.s .z)))) | exact .h (.s (.s (.s (.s (.s .z))))) | exact .h (.s (.s (.s (.s (.s (.s .z)))))) | exact .h (.s (.s (.s (.s (.s (.s (.s .z))))))) | exact .h (.s (.s (.s (.s (.s (.s (.s (.s .z)))))))) | exact .x .z | exact .x (.s .z) | exact .x (.s (.s .z)) | exact .x (.s (.s (.s .z))) | exact .x (.s (.s (.s (.s .z)))) | exact .x (.s (.s (.s (.s (.s .z))))) | exact .x (.s (.s (.s (.s (.s (.s .z))))))) (by first | rfl | exact gC (by omega) | exact takeC (by omega) | exact takeC0 (by omega) | exact gF (by omega)) ?_
                      refine r_move rfl rfl rfl ?_
                      refine r_move rfl rfl rfl ?_
                      refine r_move rfl rfl rfl ?_
                      refine r_callR cb_85 rfl rfl rfl rfl rfl (l04Sorted _ n rs hl hn _ _ _ m fs hf hm _ _ (es.getD k 0) g lo hi hv hck hg hvm) (by repeat (first | exact .z | refine .s (.h .z) ?_ | refine .s (.h (.s .z)) ?_ | refine .s (.h (.s (.s .z))) ?_ | refine .s (.h (.s (.s (.s .z)))) ?_ | refine .s (.h (.s (.s (.s (.s .z))))) ?_ | refine .s (.h (.s (.s (.s (.s (.s .z)))))) ?_ | refine .s (.h (.s (.s (.s (.s (.s (.s .z))))))) ?_ | refine .s (.h (.s (.s (.s (.s (.s (.s (.s .z)))))))) ?_ | refine .s (.h (.s (.s (.s (.s (.s (.s (.s (.s .z))))))))) ?_ | refine .s (.x .z) ?_ | refine .s (.x (.s .z)) ?_ | refine .s (.x (.s (.s .z))) ?_ | refine .s (.x (.s (.s (.s .z)))) ?_ | refine .s (.x (.s (.s (.s (.s .z))))) ?_ | refine .s (.x (.s (.s (.s (.s (.s .z)))))) ?_ | refine .s (.x (.s (.s (.s (.s (.s (.s .z))))))) ?_)) ?_
                      rintro _ _ ⟨p, q, rfl, hq1, hq2, rfl⟩
                      refine r_move rfl rfl rfl ?_
                      refine r_extract rfl rfl rfl rfl ?_
                      refine r_extract rfl rfl rfl rfl ?_
                      refine r_assign rfl rfl rfl ?_
                      refine r_assign rfl rfl rfl ?_
                      refine R_nil ?_
                      refine K_tn ?_
                      refine K_seq ?_
                      refine R_region ?_
                      refine r_fieldAddr fd_54_0 rfl rfl rfl ?_
                      refine r_load ag_22 rfl rfl rfl (by first | exact .h .z | exact .h (.s .z) | exact .h (.s (.s .z)) | exact .h (.s (.s (.s .z))) | exact .h (.s (.s (.s (.s .z)))) | exact .h (.s (.s (.s (.s (.s .z))))) | exact .h (.s (.s (.s (.s (.s (.s .z)))))) | exact .h (.s (.s (.s (.s (.s (.s (.s .z))))))) | exact .h (.s (.s (.s (.s (.s (.s (.s (.s .z)))))))) | exact .x .z | exact .x (.s .z) | exact .x (.s (.s .z)) | exact .x (.s (.s (.s .z))) | exact .x (.s (.s (.s (.s .z)))) | exact .x (.s (.s (.s (.s (.s .z))))) | exact .x (.s (.s (.s (.s (.s (.s .z))))))) (by first | rfl | exact gC (by omega) | exact takeC (by omega) | exact takeC0 (by omega) | exact gF (by omega)) ?_
                      refine r_convI ⟨_, un_22⟩ un_2 rfl rfl rfl (i64K (by omega) (by omega)) ?_
                      refine r_move rfl rfl rfl ?_
                      refine r_lenS sl_60 rfl rfl rfl ?_
                      refine r_sub rfl rfl rfl rfl (i64K (by omega) (by omega)) ?_
                      refine r_move rfl rfl rfl ?_
                      refine r_lenS sl_60 rfl rfl rfl ?_
                      refine r_sub rfl rfl rfl rfl (i64K (by omega) (by omega)) ?_
                      refine r_assign rfl rfl rfl ?_
                      refine R_nil ?_
                      refine K_tn ?_
                      refine K_seq ?_
                      refine R_region ?_
                      refine r_move rfl rfl rfl ?_
                      refine r_move rfl rfl rfl ?_
                      refine s_gtr rfl rfl rfl rfl (fun h79 => ?_) (fun h79 => ?_)
                      · first
                        | (exfalso; first | omega | (simp_all; done) | (simp_all; omega))
                        |
                          refine R_nil ?_
                          refine K_tn ?_
                          refine K_cond_t rfl ?_
                          refine K_seq ?_
                          refine R_region ?_
                          refine r_move rfl rfl rfl ?_
                          refine r_assign rfl rfl rfl ?_
                          refine R_nil ?_
                          refine K_tn ?_
                          refine R_region ?_
                          refine r_move rfl rfl rfl ?_
                          refine r_assign rfl rfl rfl ?_
                          refine R_nil ?_
                          refine K_bn ?_
                          refine K_tn ?_
                          refine R_region ?_
                          refine r_move rfl rfl rfl ?_
                          first | refine r_addN rfl rfl rfl rfl (i64K (by omega) (by omega)) ?_ | refine r_add rfl rfl rfl rfl (i64K (by omega) (by omega)) ?_
                          refine r_assign rfl rfl rfl ?_
                          refine R_nil ?_
                          refine K_tn ?_
                          exact K_again (k + 1) (by omega) (by omega) (by repeat (first | exact trivial | refine ⟨rfl, ?_⟩ | refine ⟨congrArg (fun t : Int × Int => some (Value.int .i64 t.1)) (bestB_t (sc := (fineC n rs g m fs lo hi es)) h79).symm, ?_⟩ | refine ⟨congrArg (fun t : Int × Int => some (Value.int .i64 t.1)) (bestB_f (sc := (fineC n rs g m fs lo hi es)) h79).symm, ?_⟩ | refine ⟨congrArg (fun t : Int × Int => some (Value.int .i64 t.2)) (bestB_t (sc := (fineC n rs g m fs lo hi es)) h79).symm, ?_⟩ | refine ⟨congrArg (fun t : Int × Int => some (Value.int .i64 t.2)) (bestB_f (sc := (fineC n rs g m fs lo hi es)) h79).symm, ?_⟩)) (by repeat (first | exact .z | apply Rems.s Rem.z | apply Rems.s (Rem.s Rem.z) | apply Rems.s (Rem.s (Rem.s Rem.z)) | apply Rems.s (Rem.s (Rem.s (Rem.s Rem.z))) | apply Rems.s (Rem.s (Rem.s (Rem.s (Rem.s Rem.z)))) | apply Rems.s (Rem.s (Rem.s (Rem.s (Rem.s (Rem.s Rem.z))))) | apply Rems.s (Rem.s (Rem.s (Rem.s (Rem.s (Rem.s (Rem.s Rem.z)))))) | apply Rems.s (Rem.s (Rem.s (Rem.s (Rem.s (Rem.s (Rem.s (Rem.s Rem.z))))))) | apply Rems.s (Rem.s (Rem.s (Rem.s (Rem.s (Rem.s (Rem.s (Rem.s (Rem.s Rem.z)))))))) | apply Rems.s (Rem.s (Rem.s (Rem.s (Rem.s (Rem.s (Rem.s (Rem.s (Rem.s (Rem.s Rem.z)))))))))))
                      · first
                        | (exfalso; first | omega | (simp_all; done) | (simp_all; omega))
                        |
                          refine R_nil ?_
                          refine K_tn ?_
                          refine K_cond_f rfl ?_
                          refine K_skip ?_
                          refine K_bn ?_
                          refine K_tn ?_
                          refine R_region ?_
                          refine r_move rfl rfl rfl ?_
                          first | refine r_addN rfl rfl rfl rfl (i64K (by omega) (by omega)) ?_ | refine r_add rfl rfl rfl rfl (i64K (by omega) (by omega)) ?_
                          refine r_assign rfl rfl rfl ?_
                          refine R_nil ?_
                          refine K_tn ?_
                          exact K_again (k + 1) (by omega) (by omega) (by repeat (first | exact trivial | refine ⟨rfl, ?_⟩ | refine ⟨congrArg (fun t : Int × Int => some (Value.int .i64 t.1)) (bestB_t (sc := (fineC n rs g m fs lo hi es)) h79).symm, ?_⟩ | refine ⟨congrArg (fun t : Int × Int => some (Value.int .i64 t.1)) (bestB_f (sc := (fineC n rs g m fs lo hi es)) h79).symm, ?_⟩ | refine ⟨congrArg (fun t : Int × Int => some (Value.int .i64 t.2)) (bestB_t (sc := (fineC n rs g m fs lo hi es)) h79).symm, ?_⟩ | refine ⟨congrArg (fun t : Int × Int => some (Value.int .i64 t.2)) (bestB_f (sc := (fineC n rs g m fs lo hi es)) h79).symm, ?_⟩)) (by repeat (first | exact .z | apply Rems.s Rem.z | apply Rems.s (Rem.s Rem.z) | apply Rems.s (Rem.s (Rem.s Rem.z)) | apply Rems.s (Rem.s (Rem.s (Rem.s Rem.z))) | apply Rems.s (Rem.s (Rem.s (Rem.s (Rem.s Rem.z)))) | apply Rems.s (Rem.s (Rem.s (Rem.s (Rem.s (Rem.s Rem.z))))) | apply Rems.s (Rem.s (Rem.s (Rem.s (Rem.s (Rem.s (Rem.s Rem.z)))))) | apply Rems.s (Rem.s (Rem.s (Rem.s (Rem.s (Rem.s (Rem.s (Rem.s Rem.z))))))) | apply Rems.s (Rem.s (Rem.s (Rem.s (Rem.s (Rem.s (Rem.s (Rem.s (Rem.s Rem.z)))))))) | apply Rems.s (Rem.s (Rem.s (Rem.s (Rem.s (Rem.s (Rem.s (Rem.s (Rem.s (Rem.s Rem.z)))))))))))
                  · first
                    | (exfalso; first | omega | (simp_all; done) | (simp_all; omega))
                    |
                      refine R_nil ?_
                      refine K_tn ?_
                      refine K_cond_f rfl ?_
                      refine K_exit ?_
                      refine K_te ?_
                      refine K_te ?_
                      refine K_be ?_
                      refine K_tn ?_
                      refine K_seq ?_
                      refine R_region ?_
                      have hkn : k = len := by omega
                      subst hkn
                      refine r_move rfl rfl rfl ?_
                      refine r_move rfl rfl rfl ?_
                      refine r_assign rfl rfl rfl ?_
                      refine r_assign rfl rfl rfl ?_
                      refine r_assign rfl rfl rfl ?_
                      refine R_nil ?_
                      refine K_tn ?_
                      refine K_ret ?_
                      refine K_done (H' := []) rfl rfl (.s (.tmp rfl) (.s (.tmp rfl) (.s (.tmp rfl) .z))) (by repeat (first | exact .z | apply Rems.s Rem.z | apply Rems.s (Rem.s Rem.z) | apply Rems.s (Rem.s (Rem.s Rem.z)) | apply Rems.s (Rem.s (Rem.s (Rem.s Rem.z))) | apply Rems.s (Rem.s (Rem.s (Rem.s (Rem.s Rem.z)))) | apply Rems.s (Rem.s (Rem.s (Rem.s (Rem.s (Rem.s Rem.z))))) | apply Rems.s (Rem.s (Rem.s (Rem.s (Rem.s (Rem.s (Rem.s Rem.z)))))) | apply Rems.s (Rem.s (Rem.s (Rem.s (Rem.s (Rem.s (Rem.s (Rem.s Rem.z))))))) | apply Rems.s (Rem.s (Rem.s (Rem.s (Rem.s (Rem.s (Rem.s (Rem.s (Rem.s Rem.z)))))))) | apply Rems.s (Rem.s (Rem.s (Rem.s (Rem.s (Rem.s (Rem.s (Rem.s (Rem.s (Rem.s Rem.z))))))))))) ?_
                      refine ⟨?_, rfl⟩
                      rw [hok, show bcRes n rs g m fs es lo hi = bestB (fineC n rs g m fs lo hi es) es.length by unfold bcRes; rw [if_pos hok]; simp, he] <;> rfl
      · first
        | (exfalso; first | omega | (simp_all; done) | (simp_all; omega))
        |
          refine r_move rfl rfl rfl ?_
          refine r_skip rfl rfl ?_
          refine r_skip rfl rfl ?_
          refine r_skip rfl rfl ?_
          refine r_pick_f rfl rfl rfl rfl ?_
          refine R_nil ?_
          refine K_tn ?_
          refine K_cond_f rfl ?_
          refine K_skip ?_
          refine K_tn ?_
          refine K_seq ?_
          refine K_seq ?_
          refine R_region ?_
          refine r_move rfl rfl rfl ?_
          refine s_neq rfl rfl rfl rfl (fun h49 => ?_) (fun h49 => ?_)
          · first
            | (exfalso; first | omega | (simp_all; done) | (simp_all; omega))
            |
              refine R_nil ?_
              refine K_tn ?_
              refine K_cond_t rfl ?_
              refine K_seq ?_
              refine R_region ?_
              refine r_move rfl rfl rfl ?_
              refine r_assign rfl rfl rfl ?_
              refine r_assign rfl rfl rfl ?_
              refine r_assign rfl rfl rfl ?_
              refine R_nil ?_
              refine K_tn ?_
              refine K_ret ?_
              refine K_tr ?_
              refine K_done (H' := []) rfl rfl (.s (.tmp rfl) (.s (.tmp rfl) (.s (.tmp rfl) .z))) (by repeat (first | exact .z | apply Rems.s Rem.z | apply Rems.s (Rem.s Rem.z) | apply Rems.s (Rem.s (Rem.s Rem.z)) | apply Rems.s (Rem.s (Rem.s (Rem.s Rem.z))) | apply Rems.s (Rem.s (Rem.s (Rem.s (Rem.s Rem.z)))) | apply Rems.s (Rem.s (Rem.s (Rem.s (Rem.s (Rem.s Rem.z))))) | apply Rems.s (Rem.s (Rem.s (Rem.s (Rem.s (Rem.s (Rem.s Rem.z)))))) | apply Rems.s (Rem.s (Rem.s (Rem.s (Rem.s (Rem.s (Rem.s (Rem.s Rem.z))))))) | apply Rems.s (Rem.s (Rem.s (Rem.s (Rem.s (Rem.s (Rem.s (Rem.s (Rem.s Rem.z)))))))) | apply Rems.s (Rem.s (Rem.s (Rem.s (Rem.s (Rem.s (Rem.s (Rem.s (Rem.s (Rem.s Rem.z))))))))))) ?_
              refine ⟨?_, rfl⟩
              rw [hok, show bcRes n rs g m fs es lo hi = bestB (fineC n rs g m fs lo hi es) es.length by unfold bcRes; rw [if_pos hok]; simp, he] <;> rfl
          · first
            | (exfalso; first | omega | (simp_all; done) | (simp_all; omega))
            |
              refine R_nil ?_
              refine K_tn ?_
              refine K_cond_f rfl ?_
              refine K_skip ?_
              refine K_tn ?_
              refine K_seq ?_
              refine R_region ?_
              refine r_assign rfl rfl rfl ?_
              refine R_nil ?_
              refine K_tn ?_
              refine K_seq ?_
              refine R_region ?_
              refine r_assign rfl rfl rfl ?_
              refine R_nil ?_
              refine K_tn ?_
              refine K_seq ?_
              refine K_seq ?_
              refine R_region ?_
              refine r_assign rfl rfl rfl ?_
              refine R_nil ?_
              refine K_tn ?_
              refine K_block ?_
              refine K_loop (fun (k : Nat) => k ≤ len) (fun k => [(1, .float .f32 g), (3, .slice (some ⟨b, 0, none⟩) len cap), (4, .float .f32 lo), (5, .float .f32 hi), (6, .pointer (some ⟨b6, 0, none⟩)), (8, .pointer (some ⟨b8, 0, none⟩)), (17, .int .i64 (bestB (fineC n rs g m fs lo hi es) k).1), (18, .int .i64 (bestB (fineC n rs g m fs lo hi es) k).2), (19, .int .i64 (k : Int))]) (fun _ => [(b6, .cells (.int .i8 (n : Int) :: fl .f32 rs).toArray 28 (0, 0)), (b8, .cells (.int .i8 (m : Int) :: fl .f32 fs).toArray 54 (0, 0))]) (fun k => len - k) 0 (by omega) (by repeat (first | exact trivial | refine ⟨rfl, ?_⟩)) (by repeat (first | exact .z | apply Rems.s Rem.z | apply Rems.s (Rem.s Rem.z) | apply Rems.s (Rem.s (Rem.s Rem.z)) | apply Rems.s (Rem.s (Rem.s (Rem.s Rem.z))) | apply Rems.s (Rem.s (Rem.s (Rem.s (Rem.s Rem.z)))) | apply Rems.s (Rem.s (Rem.s (Rem.s (Rem.s (Rem.s Rem.z))))) | apply Rems.s (Rem.s (Rem.s (Rem.s (Rem.s (Rem.s (Rem.s Rem.z)))))) | apply Rems.s (Rem.s (Rem.s (Rem.s (Rem.s (Rem.s (Rem.s (Rem.s Rem.z))))))) | apply Rems.s (Rem.s (Rem.s (Rem.s (Rem.s (Rem.s (Rem.s (Rem.s (Rem.s Rem.z)))))))) | apply Rems.s (Rem.s (Rem.s (Rem.s (Rem.s (Rem.s (Rem.s (Rem.s (Rem.s (Rem.s Rem.z))))))))))) (fun k hp => ?_)
              refine K_seq ?_
              refine K_seq ?_
              refine R_region ?_
              refine r_move rfl rfl rfl ?_
              refine r_move rfl rfl rfl ?_
              refine r_lenS sl_47 rfl rfl rfl ?_
              refine s_lss rfl rfl rfl rfl (fun h54 => ?_) (fun h54 => ?_)
              · first
                | (exfalso; first | omega | (simp_all; done) | (simp_all; omega))
                |
                  refine R_nil ?_
                  refine K_tn ?_
                  refine K_cond_t rfl ?_
                  refine K_skip ?_
                  refine K_tn ?_
                  refine K_seq ?_
                  refine K_block ?_
                  refine K_seq ?_
                  refine R_region ?_
                  have hle1 := filterI_le m (isEarly (arrF n rs (es.getD k 0) g) fs hi)
                  have hle2 := filterI_le m (isLate (arrF n rs (es.getD k 0) g) fs lo)
                  have hck := hpc k (by omega)
                  have hokk := okC_mk (rs := rs) hvm hv hck hg hpl hph
                  refine r_move rfl rfl rfl ?_
                  refine r_move rfl rfl rfl ?_
                  refine r_indexS sl_47 sz_23 rfl rfl rfl rfl (by omega) ?_
                  refine r_load ag_23 rfl rfl rfl (by first | exact .h .z | exact .h (.s .z) | exact .h (.s (.s .z)) | exact .h (.s (.s (.s .z))) | exact .h (.s (.s (.s (.s .z)))) | exact .h (.s (.s (.s (.s (.s .z))))) | exact .h (.s (.s (.s (.s (.s (.s .z)))))) | exact .h (.s (.s (.s (.s (.s (.s (.s .z))))))) | exact .h (.s (.s (.s (.s (.s (.s (.s (.s .z)))))))) | exact .x .z | exact .x (.s .z) | exact .x (.s (.s .z)) | exact .x (.s (.s (.s .z))) | exact .x (.s (.s (.s (.s .z)))) | exact .x (.s (.s (.s (.s (.s .z))))) | exact .x (.s (.s (.s (.s (.s (.s .z))))))) (by first | rfl | exact gC (by omega) | exact takeC (by omega) | exact takeC0 (by omega) | exact gF (by omega)) ?_
                  refine r_move rfl rfl rfl ?_
                  refine r_move rfl rfl rfl ?_
                  refine r_move rfl rfl rfl ?_
                  refine r_callR cb_85 rfl rfl rfl rfl rfl (l04Sorted _ n rs hl hn _ _ _ m fs hf hm _ _ (es.getD k 0) g lo hi hv hck hg hvm) (by repeat (first | exact .z | refine .s (.h .z) ?_ | refine .s (.h (.s .z)) ?_ | refine .s (.h (.s (.s .z))) ?_ | refine .s (.h (.s (.s (.s .z)))) ?_ | refine .s (.h (.s (.s (.s (.s .z))))) ?_ | refine .s (.h (.s (.s (.s (.s (.s .z)))))) ?_ | refine .s (.h (.s (.s (.s (.s (.s (.s .z))))))) ?_ | refine .s (.h (.s (.s (.s (.s (.s (.s (.s .z)))))))) ?_ | refine .s (.h (.s (.s (.s (.s (.s (.s (.s (.s .z))))))))) ?_ | refine .s (.x .z) ?_ | refine .s (.x (.s .z)) ?_ | refine .s (.x (.s (.s .z))) ?_ | refine .s (.x (.s (.s (.s .z)))) ?_ | refine .s (.x (.s (.s (.s (.s .z))))) ?_ | refine .s (.x (.s (.s (.s (.s (.s .z)))))) ?_ | refine .s (.x (.s (.s (.s (.s (.s (.s .z))))))) ?_)) ?_
                  rintro _ _ ⟨p, q, rfl, hq1, hq2, rfl⟩
                  refine r_move rfl rfl rfl ?_
                  refine r_extract rfl rfl rfl rfl ?_
                  refine r_extract rfl rfl rfl rfl ?_
                  refine r_assign rfl rfl rfl ?_
                  refine r_assign rfl rfl rfl ?_
                  refine R_nil ?_
                  refine K_tn ?_
                  refine K_seq ?_
                  refine R_region ?_
                  refine r_fieldAddr fd_54_0 rfl rfl rfl ?_
                  refine r_load ag_22 rfl rfl rfl (by first | exact .h .z | exact .h (.s .z) | exact .h (.s (.s .z)) | exact .h (.s (.s (.s .z))) | exact .h (.s (.s (.s (.s .z)))) | exact .h (.s (.s (.s (.s (.s .z))))) | exact .h (.s (.s (.s (.s (.s (.s .z)))))) | exact .h (.s (.s (.s (.s (.s (.s (.s .z))))))) | exact .h (.s (.s (.s (.s (.s (.s (.s (.s .z)))))))) | exact .x .z | exact .x (.s .z) | exact .x (.s (.s .z)) | exact .x (.s (.s (.s .z))) | exact .x (.s (.s (.s (.s .z)))) | exact .x (.s (.s (.s (.s (.s .z))))) | exact .x (.s (.s (.s (.s (.s (.s .z))))))) (by first | rfl | exact gC (by omega) | exact takeC (by omega) | exact takeC0 (by omega) | exact gF (by omega)) ?_
                  refine r_convI ⟨_, un_22⟩ un_2 rfl rfl rfl (i64K (by omega) (by omega)) ?_
                  refine r_move rfl rfl rfl ?_
                  refine r_lenS sl_60 rfl rfl rfl ?_
                  refine r_sub rfl rfl rfl rfl (i64K (by omega) (by omega)) ?_
                  refine r_move rfl rfl rfl ?_
                  refine r_lenS sl_60 rfl rfl rfl ?_
                  refine r_sub rfl rfl rfl rfl (i64K (by omega) (by omega)) ?_
                  refine r_assign rfl rfl rfl ?_
                  refine R_nil ?_
                  refine K_tn ?_
                  refine K_seq ?_
                  refine R_region ?_
                  refine r_move rfl rfl rfl ?_
                  refine r_move rfl rfl rfl ?_
                  refine s_gtr rfl rfl rfl rfl (fun h79 => ?_) (fun h79 => ?_)
                  · first
                    | (exfalso; first | omega | (simp_all; done) | (simp_all; omega))
                    |
                      refine R_nil ?_
                      refine K_tn ?_
                      refine K_cond_t rfl ?_
                      refine K_seq ?_
                      refine R_region ?_
                      refine r_move rfl rfl rfl ?_
                      refine r_assign rfl rfl rfl ?_
                      refine R_nil ?_
                      refine K_tn ?_
                      refine R_region ?_
                      refine r_move rfl rfl rfl ?_
                      refine r_assign rfl rfl rfl ?_
                      refine R_nil ?_
                      refine K_bn ?_
                      refine K_tn ?_
                      refine R_region ?_
                      refine r_move rfl rfl rfl ?_
                      first | refine r_addN rfl rfl rfl rfl (i64K (by omega) (by omega)) ?_ | refine r_add rfl rfl rfl rfl (i64K (by omega) (by omega)) ?_
                      refine r_assign rfl rfl rfl ?_
                      refine R_nil ?_
                      refine K_tn ?_
                      exact K_again (k + 1) (by omega) (by omega) (by repeat (first | exact trivial | refine ⟨rfl, ?_⟩ | refine ⟨congrArg (fun t : Int × Int => some (Value.int .i64 t.1)) (bestB_t (sc := (fineC n rs g m fs lo hi es)) h79).symm, ?_⟩ | refine ⟨congrArg (fun t : Int × Int => some (Value.int .i64 t.1)) (bestB_f (sc := (fineC n rs g m fs lo hi es)) h79).symm, ?_⟩ | refine ⟨congrArg (fun t : Int × Int => some (Value.int .i64 t.2)) (bestB_t (sc := (fineC n rs g m fs lo hi es)) h79).symm, ?_⟩ | refine ⟨congrArg (fun t : Int × Int => some (Value.int .i64 t.2)) (bestB_f (sc := (fineC n rs g m fs lo hi es)) h79).symm, ?_⟩)) (by repeat (first | exact .z | apply Rems.s Rem.z | apply Rems.s (Rem.s Rem.z) | apply Rems.s (Rem.s (Rem.s Rem.z)) | apply Rems.s (Rem.s (Rem.s (Rem.s Rem.z))) | apply Rems.s (Rem.s (Rem.s (Rem.s (Rem.s Rem.z)))) | apply Rems.s (Rem.s (Rem.s (Rem.s (Rem.s (Rem.s Rem.z))))) | apply Rems.s (Rem.s (Rem.s (Rem.s (Rem.s (Rem.s (Rem.s Rem.z)))))) | apply Rems.s (Rem.s (Rem.s (Rem.s (Rem.s (Rem.s (Rem.s (Rem.s Rem.z))))))) | apply Rems.s (Rem.s (Rem.s (Rem.s (Rem.s (Rem.s (Rem.s (Rem.s (Rem.s Rem.z)))))))) | apply Rems.s (Rem.s (Rem.s (Rem.s (Rem.s (Rem.s (Rem.s (Rem.s (Rem.s (Rem.s Rem.z)))))))))))
                  · first
                    | (exfalso; first | omega | (simp_all; done) | (simp_all; omega))
                    |
                      refine R_nil ?_
                      refine K_tn ?_
                      refine K_cond_f rfl ?_
                      refine K_skip ?_
                      refine K_bn ?_
                      refine K_tn ?_
                      refine R_region ?_
                      refine r_move rfl rfl rfl ?_
                      first | refine r_addN rfl rfl rfl rfl (i64K (by omega) (by omega)) ?_ | refine r_add rfl rfl rfl rfl (i64K (by omega) (by omega)) ?_
                      refine r_assign rfl rfl rfl ?_
                      refine R_nil ?_
                      refine K_tn ?_
                      exact K_again (k + 1) (by omega) (by omega) (by repeat (first | exact trivial | refine ⟨rfl, ?_⟩ | refine ⟨congrArg (fun t : Int × Int => some (Value.int .i64 t.1)) (bestB_t (sc := (fineC n rs g m fs lo hi es)) h79).symm, ?_⟩ | refine ⟨congrArg (fun t : Int × Int => some (Value.int .i64 t.1)) (bestB_f (sc := (fineC n rs g m fs lo hi es)) h79).symm, ?_⟩ | refine ⟨congrArg (fun t : Int × Int => some (Value.int .i64 t.2)) (bestB_t (sc := (fineC n rs g m fs lo hi es)) h79).symm, ?_⟩ | refine ⟨congrArg (fun t : Int × Int => some (Value.int .i64 t.2)) (bestB_f (sc := (fineC n rs g m fs lo hi es)) h79).symm, ?_⟩)) (by repeat (first | exact .z | apply Rems.s Rem.z | apply Rems.s (Rem.s Rem.z) | apply Rems.s (Rem.s (Rem.s Rem.z)) | apply Rems.s (Rem.s (Rem.s (Rem.s Rem.z))) | apply Rems.s (Rem.s (Rem.s (Rem.s (Rem.s Rem.z)))) | apply Rems.s (Rem.s (Rem.s (Rem.s (Rem.s (Rem.s Rem.z))))) | apply Rems.s (Rem.s (Rem.s (Rem.s (Rem.s (Rem.s (Rem.s Rem.z)))))) | apply Rems.s (Rem.s (Rem.s (Rem.s (Rem.s (Rem.s (Rem.s (Rem.s Rem.z))))))) | apply Rems.s (Rem.s (Rem.s (Rem.s (Rem.s (Rem.s (Rem.s (Rem.s (Rem.s Rem.z)))))))) | apply Rems.s (Rem.s (Rem.s (Rem.s (Rem.s (Rem.s (Rem.s (Rem.s (Rem.s (Rem.s Rem.z)))))))))))
              · first
                | (exfalso; first | omega | (simp_all; done) | (simp_all; omega))
                |
                  refine R_nil ?_
                  refine K_tn ?_
                  refine K_cond_f rfl ?_
                  refine K_exit ?_
                  refine K_te ?_
                  refine K_te ?_
                  refine K_be ?_
                  refine K_tn ?_
                  refine K_seq ?_
                  refine R_region ?_
                  have hkn : k = len := by omega
                  subst hkn
                  refine r_move rfl rfl rfl ?_
                  refine r_move rfl rfl rfl ?_
                  refine r_assign rfl rfl rfl ?_
                  refine r_assign rfl rfl rfl ?_
                  refine r_assign rfl rfl rfl ?_
                  refine R_nil ?_
                  refine K_tn ?_
                  refine K_ret ?_
                  refine K_done (H' := []) rfl rfl (.s (.tmp rfl) (.s (.tmp rfl) (.s (.tmp rfl) .z))) (by repeat (first | exact .z | apply Rems.s Rem.z | apply Rems.s (Rem.s Rem.z) | apply Rems.s (Rem.s (Rem.s Rem.z)) | apply Rems.s (Rem.s (Rem.s (Rem.s Rem.z))) | apply Rems.s (Rem.s (Rem.s (Rem.s (Rem.s Rem.z)))) | apply Rems.s (Rem.s (Rem.s (Rem.s (Rem.s (Rem.s Rem.z))))) | apply Rems.s (Rem.s (Rem.s (Rem.s (Rem.s (Rem.s (Rem.s Rem.z)))))) | apply Rems.s (Rem.s (Rem.s (Rem.s (Rem.s (Rem.s (Rem.s (Rem.s Rem.z))))))) | apply Rems.s (Rem.s (Rem.s (Rem.s (Rem.s (Rem.s (Rem.s (Rem.s (Rem.s Rem.z)))))))) | apply Rems.s (Rem.s (Rem.s (Rem.s (Rem.s (Rem.s (Rem.s (Rem.s (Rem.s (Rem.s Rem.z))))))))))) ?_
                  refine ⟨?_, rfl⟩
                  rw [hok, show bcRes n rs g m fs es lo hi = bestB (fineC n rs g m fs lo hi es) es.length by unfold bcRes; rw [if_pos hok]; simp, he] <;> rfl

end Go.Proofs.Ytpanpkmheeenjaa
