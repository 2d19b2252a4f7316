/- Walks of the functions of the program and of the reference, and what each of them returns. -/
import Derived.Test.YtlkpkenbfaiinaaPMoveMarks1
set_option linter.unusedVariables false
set_option linter.unusedSimpArgs false
namespace Go.Proofs.Ytlkpkenbfaiinaa
open Go.Sl
set_option maxRecDepth 20000 in
set_option maxHeartbeats 1600000 in
theorem spec_MM_ok (b off len cap : Nat) (l : List Value) (u : TypeId) (fr : Nat × Nat) (es : List Lk) (he : es.length = len) (hl : ∀ i, i < len → takeAt l (off + i * 3) 3 = some (lk (es.getD i lz))) (b2 off2 len2 cap2 : Nat) (l2 : List Value) (u2 : TypeId) (fr2 : Nat × Nat) (ls : List Lk) (he2 : ls.length = len2) (hl2 : ∀ i, i < len2 → takeAt l2 (off2 + i * 3) 3 = some (lk (ls.getD i lz))) (hb : len ≤ 1048576) (hb2 : len2 ≤ 1048576) (hok : lkCode es ls = 0) : Go.Sl.Spec Try.prog 45 [.slice (some ⟨b, off, none⟩) len cap, .slice (some ⟨b2, off2, none⟩) len2 cap2] [(b, .cells l.toArray u fr), (b2, .cells l2.toArray u2 fr2)] [] (RowGC lk (mapG (mmF es ls) es.length) 3 (lkCode es ls)) := by
  refine spec_of Try.func45 rfl Try.ntmps45 rfl (fun w0 => ?_)
  subst he
  subst he2
  obtain ⟨hva, hvb, h0, _, hm10⟩ := lkCode_ok hok
  refine K_seq ?_
  refine R_region ?_
  refine r_assign rfl rfl rfl ?_
  refine r_assign rfl rfl rfl ?_
  refine R_nil ?_
  refine K_tn ?_
  refine K_seq ?_
  refine R_region ?_
  refine r_buildSlice sl_46 sz_43 zr_43 rfl rfl rfl rfl rfl (by first | rfl) (fun b13 => ?_)
  refine r_assign rfl rfl rfl ?_
  refine R_nil ?_
  refine K_tn ?_
  refine K_seq ?_
  refine K_seq ?_
  refine R_region ?_
  refine r_move rfl rfl rfl ?_
  refine r_move rfl rfl rfl ?_
  refine r_callV cb_90 rfl rfl rfl rfl rfl (l03Looks _ _ _ _ _ _ _ es rfl hl _ _ _ _ _ _ _ ls rfl hl2 (by omega) (by omega)) (by repeat (first | exact .z | refine .s (.h .z) ?_ | refine .s (.h (.s .z)) ?_ | refine .s (.h (.s (.s .z))) ?_ | refine .s (.h (.s (.s (.s .z)))) ?_ | refine .s (.h (.s (.s (.s (.s .z))))) ?_ | refine .s (.h (.s (.s (.s (.s (.s .z)))))) ?_ | refine .s (.h (.s (.s (.s (.s (.s (.s .z))))))) ?_ | refine .s (.h (.s (.s (.s (.s (.s (.s (.s .z)))))))) ?_ | refine .s (.h (.s (.s (.s (.s (.s (.s (.s (.s .z))))))))) ?_ | refine .s (.x .z) ?_ | refine .s (.x (.s .z)) ?_ | refine .s (.x (.s (.s .z))) ?_ | refine .s (.x (.s (.s (.s .z)))) ?_ | refine .s (.x (.s (.s (.s (.s .z))))) ?_ | refine .s (.x (.s (.s (.s (.s (.s .z)))))) ?_ | refine .s (.x (.s (.s (.s (.s (.s (.s .z))))))) ?_)) ?_
  refine r_assign rfl rfl rfl ?_
  refine R_nil ?_
  refine K_tn ?_
  refine K_seq ?_
  refine R_region ?_
  refine r_move rfl rfl rfl ?_
  refine s_neq rfl rfl rfl rfl (fun h18 => ?_) (fun h18 => ?_)
  · first
    | (exfalso; omega)
    |
      refine R_nil ?_
      refine K_tn ?_
      refine K_cond_t rfl ?_
      refine K_seq ?_
      refine R_region ?_
      refine r_move rfl rfl rfl ?_
      refine r_move rfl rfl rfl ?_
      refine r_assign rfl rfl rfl ?_
      refine r_assign rfl rfl rfl ?_
      refine R_nil ?_
      refine K_tn ?_
      refine K_ret ?_
      refine K_tr ?_
      refine K_done (H' := [(p.b, .cells (fm lk (mapG (mmF es ls) es.length) ++ p.junk).toArray p.u (0, 0))]) rfl rfl (.s (.tmp rfl) (.s (.tmp rfl) .z)) (by repeat (first | exact .z | apply Rems.s Rem.z | apply Rems.s (Rem.s Rem.z) | apply Rems.s (Rem.s (Rem.s Rem.z)) | apply Rems.s (Rem.s (Rem.s (Rem.s Rem.z))) | apply Rems.s (Rem.s (Rem.s (Rem.s (Rem.s Rem.z)))) | apply Rems.s (Rem.s (Rem.s (Rem.s (Rem.s (Rem.s Rem.z))))) | apply Rems.s (Rem.s (Rem.s (Rem.s (Rem.s (Rem.s (Rem.s Rem.z)))))) | apply Rems.s (Rem.s (Rem.s (Rem.s (Rem.s (Rem.s (Rem.s (Rem.s Rem.z))))))) | apply Rems.s (Rem.s (Rem.s (Rem.s (Rem.s (Rem.s (Rem.s (Rem.s (Rem.s Rem.z)))))))) | apply Rems.s (Rem.s (Rem.s (Rem.s (Rem.s (Rem.s (Rem.s (Rem.s (Rem.s (Rem.s Rem.z))))))))))) ?_
      exact ⟨p.b, p.cap, p.junk, p.u, by rw [hok, mapG_len], by rw [mapG_len]; exact hq, by rw [mapG_len]; exact hqc, rfl⟩
  · first
    | (exfalso; omega)
    |
      refine R_nil ?_
      refine K_tn ?_
      refine K_cond_f rfl ?_
      refine K_skip ?_
      refine K_tn ?_
      refine K_seq ?_
      refine K_seq ?_
      refine R_region ?_
      refine r_assign rfl rfl rfl ?_
      refine R_nil ?_
      refine K_tn ?_
      refine K_block ?_
      refine K_loop2 (fun (k : Nat) (p : RowP) => k ≤ es.length ∧ k * 3 + p.junk.length = p.cap * 3 ∧ k ≤ p.cap) (fun k p => [(0, .slice (some ⟨b, off, none⟩) es.length cap), (1, .slice (some ⟨b2, off2, none⟩) ls.length cap2), (6, .slice (some ⟨p.b, 0, none⟩) k p.cap), (8, .int .i64 (k : Int))]) (fun k p => [(p.b, .cells (fm lk (mapG (mmF es ls) k) ++ p.junk).toArray p.u (0, 0))]) (fun k _ => es.length - k) 0 ⟨b13, 0, [], 43⟩ (by exact ⟨Nat.zero_le _, rfl, Nat.le_refl _⟩) (by repeat (first | exact trivial | refine ⟨rfl, ?_⟩)) (by repeat (first | exact .z | apply Rems.s Rem.z | apply Rems.s (Rem.s Rem.z) | apply Rems.s (Rem.s (Rem.s Rem.z)) | apply Rems.s (Rem.s (Rem.s (Rem.s Rem.z))) | apply Rems.s (Rem.s (Rem.s (Rem.s (Rem.s Rem.z)))) | apply Rems.s (Rem.s (Rem.s (Rem.s (Rem.s (Rem.s Rem.z))))) | apply Rems.s (Rem.s (Rem.s (Rem.s (Rem.s (Rem.s (Rem.s Rem.z)))))) | apply Rems.s (Rem.s (Rem.s (Rem.s (Rem.s (Rem.s (Rem.s (Rem.s Rem.z))))))) | apply Rems.s (Rem.s (Rem.s (Rem.s (Rem.s (Rem.s (Rem.s (Rem.s (Rem.s Rem.z)))))))) | apply Rems.s (Rem.s (Rem.s (Rem.s (Rem.s (Rem.s (Rem.s (Rem.s (Rem.s (Rem.s Rem.z))))))))))) (fun k p hq0 => ?_)
      obtain ⟨hk, hq, hqc⟩ := hq0
      refine K_seq ?_
      refine K_seq ?_
      refine R_region ?_
      refine r_move rfl rfl rfl ?_
      refine r_move rfl rfl rfl ?_
      refine r_lenS sl_46 rfl rfl rfl ?_
      refine s_lss rfl rfl rfl rfl (fun h24 => ?_) (fun h24 => ?_)
      · first
        | (exfalso; omega)
        |
          refine R_nil ?_
          refine K_tn ?_
          refine K_cond_t rfl ?_
          refine K_skip ?_
          refine K_tn ?_
          refine K_seq ?_
          refine K_block ?_
          refine K_seq ?_
          refine R_region ?_
          refine r_buildSlice sl_46 sz_43 zr_43 rfl rfl rfl rfl rfl (by first | rfl) (fun b27 => ?_)
          refine r_assign rfl rfl rfl ?_
          refine R_nil ?_
          refine K_tn ?_
          refine K_seq ?_
          refine K_seq ?_
          refine R_region ?_
          refine r_assign rfl rfl rfl ?_
          refine R_nil ?_
          refine K_tn ?_
          refine K_block ?_
          refine K_loop2 (fun (j : Nat) (q : RowP) => j ≤ ls.length ∧ (ownL es ls k j).length * 3 + q.junk.length = q.cap * 3 ∧ (ownL es ls k j).length ≤ q.cap) (fun j q => [(0, .slice (some ⟨b, off, none⟩) es.length cap), (1, .slice (some ⟨b2, off2, none⟩) ls.length cap2), (6, .slice (some ⟨p.b, 0, none⟩) k p.cap), (8, .int .i64 (k : Int)), (9, .slice (some ⟨q.b, 0, none⟩) (ownL es ls k j).length q.cap), (10, .int .i64 (j : Int))]) (fun j q => [(q.b, .cells (fm lk (ownL es ls k j) ++ q.junk).toArray q.u (0, 0)), (p.b, .cells (fm lk (mapG (mmF es ls) k) ++ p.junk).toArray p.u (0, 0))]) (fun j _ => ls.length - j) 0 ⟨b27, 0, [], 43⟩ (by exact ⟨Nat.zero_le _, rfl, Nat.le_refl _⟩) (by repeat (first | exact trivial | refine ⟨rfl, ?_⟩)) (by repeat (first | exact .z | apply Rems.s Rem.z | apply Rems.s (Rem.s Rem.z) | apply Rems.s (Rem.s (Rem.s Rem.z)) | apply Rems.s (Rem.s (Rem.s (Rem.s Rem.z))) | apply Rems.s (Rem.s (Rem.s (Rem.s (Rem.s Rem.z)))) | apply Rems.s (Rem.s (Rem.s (Rem.s (Rem.s (Rem.s Rem.z))))) | apply Rems.s (Rem.s (Rem.s (Rem.s (Rem.s (Rem.s (Rem.s Rem.z)))))) | apply Rems.s (Rem.s (Rem.s (Rem.s (Rem.s (Rem.s (Rem.s (Rem.s Rem.z))))))) | apply Rems.s (Rem.s (Rem.s (Rem.s (Rem.s (Rem.s (Rem.s (Rem.s (Rem.s Rem.z)))))))) | apply Rems.s (Rem.s (Rem.s (Rem.s (Rem.s (Rem.s (Rem.s (Rem.s (Rem.s (Rem.s Rem.z))))))))))) (fun j q hq1 => ?_)
          obtain ⟨hj, hi1, hi2⟩ := hq1
          have hle0 := ownL_le (ms := es) (ls := ls) (i := k) j
          refine K_seq ?_
          refine K_seq ?_
          refine R_region ?_
          refine r_move rfl rfl rfl ?_
          refine r_move rfl rfl rfl ?_
          refine r_lenS sl_46 rfl rfl rfl ?_
          refine s_lss rfl rfl rfl rfl (fun h31 => ?_) (fun h31 => ?_)
          · first
            | (exfalso; omega)
            |
              refine R_nil ?_
              refine K_tn ?_
              refine K_cond_t rfl ?_
              refine K_skip ?_
              refine K_tn ?_
              refine K_seq ?_
              refine K_block ?_
              refine K_seq ?_
              refine R_region ?_
              have hvj := getD_all hvb (i := j) (by omega) lz
              refine r_move rfl rfl rfl ?_
              refine r_move rfl rfl rfl ?_
              refine r_move rfl rfl rfl ?_
              refine r_indexS sl_46 sz_43 rfl rfl rfl rfl (by omega) ?_
              refine r_callV cb_91 rfl rfl rfl rfl rfl (l03Nearest _ _ _ _ _ _ _ es rfl hl _ _ _ _ _ (ls.getD j lz) (hl2 j (by omega)) hva (by omega) hvj (by omega)) (by repeat (first | exact .z | refine .s (.h .z) ?_ | refine .s (.h (.s .z)) ?_ | refine .s (.h (.s (.s .z))) ?_ | refine .s (.h (.s (.s (.s .z)))) ?_ | refine .s (.h (.s (.s (.s (.s .z))))) ?_ | refine .s (.h (.s (.s (.s (.s (.s .z)))))) ?_ | refine .s (.h (.s (.s (.s (.s (.s (.s .z))))))) ?_ | refine .s (.h (.s (.s (.s (.s (.s (.s (.s .z)))))))) ?_ | refine .s (.h (.s (.s (.s (.s (.s (.s (.s (.s .z))))))))) ?_ | refine .s (.x .z) ?_ | refine .s (.x (.s .z)) ?_ | refine .s (.x (.s (.s .z))) ?_ | refine .s (.x (.s (.s (.s .z)))) ?_ | refine .s (.x (.s (.s (.s (.s .z))))) ?_ | refine .s (.x (.s (.s (.s (.s (.s .z)))))) ?_ | refine .s (.x (.s (.s (.s (.s (.s (.s .z))))))) ?_)) ?_
              refine r_move rfl rfl rfl ?_
              refine r_extract rfl rfl rfl rfl ?_
              refine r_extract rfl rfl rfl rfl ?_
              refine r_assign rfl rfl rfl ?_
              refine r_assign rfl rfl rfl ?_
              refine R_nil ?_
              refine K_tn ?_
              refine K_seq ?_
              refine R_region ?_
              refine r_move rfl rfl rfl ?_
              refine r_move rfl rfl rfl ?_
              refine s_eql rfl rfl rfl rfl (fun h44 => ?_) (fun h44 => ?_)
              · first
                | (exfalso; omega)
                |
                  refine R_nil ?_
                  refine K_tn ?_
                  refine K_cond_t rfl ?_
                  refine R_region ?_
                  refine r_move rfl rfl rfl ?_
                  refine r_move rfl rfl rfl ?_
                  refine r_move rfl rfl rfl ?_
                  refine r_indexS sl_46 sz_43 rfl rfl rfl rfl (by omega) ?_
                  refine r_loadA ag_43 sz_43 rfl rfl rfl (by first | exact .h .z | exact .h (.s .z) | exact .h (.s (.s .z)) | exact .h (.s (.s (.s .z))) | exact .h (.s (.s (.s (.s .z)))) | exact .h (.s (.s (.s (.s (.s .z))))) | exact .h (.s (.s (.s (.s (.s (.s .z)))))) | exact .h (.s (.s (.s (.s (.s (.s (.s .z))))))) | exact .h (.s (.s (.s (.s (.s (.s (.s (.s .z)))))))) | exact .x .z | exact .x (.s .z) | exact .x (.s (.s .z)) | exact .x (.s (.s (.s .z))) | exact .x (.s (.s (.s (.s .z)))) | exact .x (.s (.s (.s (.s (.s .z))))) | exact .x (.s (.s (.s (.s (.s (.s .z))))))) (by first | rfl | exact hl _ (by omega) | exact hl2 _ (by omega)) ?_
                  refine r_buildSlice sl_46 sz_43 zr_43 rfl rfl rfl rfl rfl (by first | rfl) (fun b50 => ?_)
                  refine r_appendG lk_len lk_one (p := ls.getD j lz) sl_46 sl_46 sz_43 zr_43 rfl by_43 rfl rfl rfl rfl rfl (by first | exact .h .z | exact .h (.s .z) | exact .h (.s (.s .z)) | exact .h (.s (.s (.s .z))) | exact .h (.s (.s (.s (.s .z)))) | exact .h (.s (.s (.s (.s (.s .z))))) | exact .h (.s (.s (.s (.s (.s (.s .z)))))) | exact .h (.s (.s (.s (.s (.s (.s (.s .z))))))) | exact .h (.s (.s (.s (.s (.s (.s (.s (.s .z)))))))) | exact .x .z | exact .x (.s .z) | exact .x (.s (.s .z)) | exact .x (.s (.s (.s .z))) | exact .x (.s (.s (.s (.s .z)))) | exact .x (.s (.s (.s (.s (.s .z))))) | exact .x (.s (.s (.s (.s (.s (.s .z))))))) (by first | exact .z | exact (.s .z) | exact (.s (.s .z)) | exact (.s (.s (.s .z))) | exact (.s (.s (.s (.s .z)))) | exact (.s (.s (.s (.s (.s .z))))) | exact (.s (.s (.s (.s (.s (.s .z)))))) | exact (.s (.s (.s (.s (.s (.s (.s .z))))))) | exact (.s (.s (.s (.s (.s (.s (.s (.s .z)))))))) | exact (.s (.s (.s (.s (.s (.s (.s (.s (.s .z)))))))))) (by first | rfl | exact mapG_len _ _) (by omega) (by omega) (fun b51 cap51 junk51 u51 hj51 hc51 => ?_)
                  refine r_assign rfl rfl rfl ?_
                  refine R_nil ?_
                  refine K_bn ?_
                  refine K_tn ?_
                  refine R_region ?_
                  refine r_move rfl rfl rfl ?_
                  first | refine r_addN rfl rfl rfl rfl (i64K (by omega) (by omega)) ?_ | refine r_add rfl rfl rfl rfl (i64K (by omega) (by omega)) ?_
                  refine r_assign rfl rfl rfl ?_
                  refine R_nil ?_
                  refine K_tn ?_
                  first | (have hE := ownL_t (ms := es) (ls := ls) (i := k) (j := j) (by omega); have hEl : (ownL es ls k j).length + 1 = (ownL es ls k (j + 1)).length := (by rw [← hE]; simp); rw [hE, hEl]; rw [hEl] at hj51 hc51) | (have hE := ownL_f (ms := es) (ls := ls) (i := k) (j := j) (by omega); have hEl := congrArg List.length hE; rw [hE])
                  first | (exact K_again2 (pre := (fun (j : Nat) (q : RowP) => j ≤ ls.length ∧ (ownL es ls k j).length * 3 + q.junk.length = q.cap * 3 ∧ (ownL es ls k j).length ≤ q.cap)) (Ei := (fun j q => [(0, .slice (some ⟨b, off, none⟩) es.length cap), (1, .slice (some ⟨b2, off2, none⟩) ls.length cap2), (6, .slice (some ⟨p.b, 0, none⟩) k p.cap), (8, .int .i64 (k : Int)), (9, .slice (some ⟨q.b, 0, none⟩) (ownL es ls k j).length q.cap), (10, .int .i64 (j : Int))])) (Hi := (fun j q => [(q.b, .cells (fm lk (ownL es ls k j) ++ q.junk).toArray q.u (0, 0)), (p.b, .cells (fm lk (mapG (mmF es ls) k) ++ p.junk).toArray p.u (0, 0))])) (μ := (fun j _ => ls.length - j)) (j + 1) (RowP.mk b51 cap51 junk51 u51) (by refine ⟨?_, ?_, ?_⟩ <;> (try simp only) <;> omega) (by omega) (by repeat (first | exact trivial | refine ⟨rfl, ?_⟩)) (by repeat (first | exact .z | apply Rems.s Rem.z | apply Rems.s (Rem.s Rem.z) | apply Rems.s (Rem.s (Rem.s Rem.z)) | apply Rems.s (Rem.s (Rem.s (Rem.s Rem.z))) | apply Rems.s (Rem.s (Rem.s (Rem.s (Rem.s Rem.z)))) | apply Rems.s (Rem.s (Rem.s (Rem.s (Rem.s (Rem.s Rem.z))))) | apply Rems.s (Rem.s (Rem.s (Rem.s (Rem.s (Rem.s (Rem.s Rem.z)))))) | apply Rems.s (Rem.s (Rem.s (Rem.s (Rem.s (Rem.s (Rem.s (Rem.s Rem.z))))))) | apply Rems.s (Rem.s (Rem.s (Rem.s (Rem.s (Rem.s (Rem.s (Rem.s (Rem.s Rem.z)))))))) | apply Rems.s (Rem.s (Rem.s (Rem.s (Rem.s (Rem.s (Rem.s (Rem.s (Rem.s (Rem.s Rem.z)))))))))))) | (exact K_again2 (pre := (fun (j : Nat) (q : RowP) => j ≤ ls.length ∧ (ownL es ls k j).length * 3 + q.junk.length = q.cap * 3 ∧ (ownL es ls k j).length ≤ q.cap)) (Ei := (fun j q => [(0, .slice (some ⟨b, off, none⟩) es.length cap), (1, .slice (some ⟨b2, off2, none⟩) ls.length cap2), (6, .slice (some ⟨p.b, 0, none⟩) k p.cap), (8, .int .i64 (k : Int)), (9, .slice (some ⟨q.b, 0, none⟩) (ownL es ls k j).length q.cap), (10, .int .i64 (j : Int))])) (Hi := (fun j q => [(q.b, .cells (fm lk (ownL es ls k j) ++ q.junk).toArray q.u (0, 0)), (p.b, .cells (fm lk (mapG (mmF es ls) k) ++ p.junk).toArray p.u (0, 0))])) (μ := (fun j _ => ls.length - j)) (j + 1) q (by refine ⟨?_, ?_, ?_⟩ <;> (try simp only) <;> omega) (by omega) (by repeat (first | exact trivial | refine ⟨rfl, ?_⟩)) (by repeat (first | exact .z | apply Rems.s Rem.z | apply Rems.s (Rem.s Rem.z) | apply Rems.s (Rem.s (Rem.s Rem.z)) | apply Rems.s (Rem.s (Rem.s (Rem.s Rem.z))) | apply Rems.s (Rem.s (Rem.s (Rem.s (Rem.s Rem.z)))) | apply Rems.s (Rem.s (Rem.s (Rem.s (Rem.s (Rem.s Rem.z))))) | apply Rems.s (Rem.s (Rem.s (Rem.s (Rem.s (Rem.s (Rem.s Rem.z)))))) | apply Rems.s (Rem.s (Rem.s (Rem.s (Rem.s (Rem.s (Rem.s (Rem.s Rem.z))))))) | apply Rems.s (Rem.s (Rem.s (Rem.s (Rem.s (Rem.s (Rem.s (Rem.s (Rem.s Rem.z)))))))) | apply Rems.s (Rem.s (Rem.s (Rem.s (Rem.s (Rem.s (Rem.s (Rem.s (Rem.s (Rem.s Rem.z))))))))))))
              · first
                | (exfalso; omega)
                |
                  refine R_nil ?_
                  refine K_tn ?_
                  refine K_cond_f rfl ?_
                  refine K_skip ?_
                  refine K_bn ?_
                  refine K_tn ?_
                  refine R_region ?_
                  refine r_move rfl rfl rfl ?_
                  first | refine r_addN rfl rfl rfl rfl (i64K (by omega) (by omega)) ?_ | refine r_add rfl rfl rfl rfl (i64K (by omega) (by omega)) ?_
                  refine r_assign rfl rfl rfl ?_
                  refine R_nil ?_
                  refine K_tn ?_
                  first | (have hE := ownL_t (ms := es) (ls := ls) (i := k) (j := j) (by omega); have hEl : (ownL es ls k j).length + 1 = (ownL es ls k (j + 1)).length := (by rw [← hE]; simp); rw [hE, hEl]; rw [hEl] at hj51 hc51) | (have hE := ownL_f (ms := es) (ls := ls) (i := k) (j := j) (by omega); have hEl := congrArg List.length hE; rw [hE])
                  first | (exact K_again2 (pre := (fun (j : Nat) (q : RowP) => j ≤ ls.length ∧ (ownL es ls k j).length * 3 + q.junk.length = q.cap * 3 ∧ (ownL es ls k j).length ≤ q.cap)) (Ei := (fun j q => [(0, .slice (some ⟨b, off, none⟩) es.length cap), (1, .slice (some ⟨b2, off2, none⟩) ls.length cap2), (6, .slice (some ⟨p.b, 0, none⟩) k p.cap), (8, .int .i64 (k : Int)), (9, .slice (some ⟨q.b, 0, none⟩) (ownL es ls k j).length q.cap), (10, .int .i64 (j : Int))])) (Hi := (fun j q => [(q.b, .cells (fm lk (ownL es ls k j) ++ q.junk).toArray q.u (0, 0)), (p.b, .cells (fm lk (mapG (mmF es ls) k) ++ p.junk).toArray p.u (0, 0))])) (μ := (fun j _ => ls.length - j)) (j + 1) (RowP.mk b51 cap51 junk51 u51) (by refine ⟨?_, ?_, ?_⟩ <;> (try simp only) <;> omega) (by omega) (by repeat (first | exact trivial | refine ⟨rfl, ?_⟩)) (by repeat (first | exact .z | apply Rems.s Rem.z | apply Rems.s (Rem.s Rem.z) | apply Rems.s (Rem.s (Rem.s Rem.z)) | apply Rems.s (Rem.s (Rem.s (Rem.s Rem.z))) | apply Rems.s (Rem.s (Rem.s (Rem.s (Rem.s Rem.z)))) | apply Rems.s (Rem.s (Rem.s (Rem.s (Rem.s (Rem.s Rem.z))))) | apply Rems.s (Rem.s (Rem.s (Rem.s (Rem.s (Rem.s (Rem.s Rem.z)))))) | apply Rems.s (Rem.s (Rem.s (Rem.s (Rem.s (Rem.s (Rem.s (Rem.s Rem.z))))))) | apply Rems.s (Rem.s (Rem.s (Rem.s (Rem.s (Rem.s (Rem.s (Rem.s (Rem.s Rem.z)))))))) | apply Rems.s (Rem.s (Rem.s (Rem.s (Rem.s (Rem.s (Rem.s (Rem.s (Rem.s (Rem.s Rem.z)))))))))))) | (exact K_again2 (pre := (fun (j : Nat) (q : RowP) => j ≤ ls.length ∧ (ownL es ls k j).length * 3 + q.junk.length = q.cap * 3 ∧ (ownL es ls k j).length ≤ q.cap)) (Ei := (fun j q => [(0, .slice (some ⟨b, off, none⟩) es.length cap), (1, .slice (some ⟨b2, off2, none⟩) ls.length cap2), (6, .slice (some ⟨p.b, 0, none⟩) k p.cap), (8, .int .i64 (k : Int)), (9, .slice (some ⟨q.b, 0, none⟩) (ownL es ls k j).length q.cap), (10, .int .i64 (j : Int))])) (Hi := (fun j q => [(q.b, .cells (fm lk (ownL es ls k j) ++ q.junk).toArray q.u (0, 0)), (p.b, .cells (fm lk (mapG (mmF es ls) k) ++ p.junk).toArray p.u (0, 0))])) (μ := (fun j _ => ls.length - j)) (j + 1) q (by refine ⟨?_, ?_, ?_⟩ <;> (try simp only) <;> omega) (by omega) (by repeat (first | exact trivial | refine ⟨rfl, ?_⟩)) (by repeat (first | exact .z | apply Rems.s Rem.z | apply Rems.s (Rem.s Rem.z) | apply Rems.s (Rem.s (Rem.s Rem.z)) | apply Rems.s (Rem.s (Rem.s (Rem.s Rem.z))) | apply Rems.s (Rem.s (Rem.s (Rem.s (Rem.s Rem.z)))) | apply Rems.s (Rem.s (Rem.s (Rem.s (Rem.s (Rem.s Rem.z))))) | apply Rems.s (Rem.s (Rem.s (Rem.s (Rem.s (Rem.s (Rem.s Rem.z)))))) | apply Rems.s (Rem.s (Rem.s (Rem.s (Rem.s (Rem.s (Rem.s (Rem.s Rem.z))))))) | apply Rems.s (Rem.s (Rem.s (Rem.s (Rem.s (Rem.s (Rem.s (Rem.s (Rem.s Rem.z)))))))) | apply Rems.s (Rem.s (Rem.s (Rem.s (Rem.s (Rem.s (Rem.s (Rem.s (Rem.s (Rem.s Rem.z))))))))))))
          · first
            | (exfalso; omega)
            |
              refine R_nil ?_
              refine K_tn ?_
              refine K_cond_f rfl ?_
              refine K_exit ?_
              refine K_te ?_
              refine K_te ?_
              refine K_be ?_
              refine K_tn ?_
              refine K_seq ?_
              refine R_region ?_
              have hjn : j = ls.length := by omega
              subst hjn
              have hov := ownL_valid (ms := es) (i := k) hvb ls.length (Nat.le_refl _)
              refine r_move rfl rfl rfl ?_
              refine r_lenS sl_46 rfl rfl rfl ?_
              refine s_eql rfl rfl rfl rfl (fun h54 => ?_) (fun h54 => ?_)
              · first
                | (exfalso; omega)
                |
                  refine R_nil ?_
                  refine K_tn ?_
                  refine K_cond_t rfl ?_
                  refine R_region ?_
                  refine r_move rfl rfl rfl ?_
                  refine r_move rfl rfl rfl ?_
                  refine r_move rfl rfl rfl ?_
                  refine r_indexS sl_46 sz_43 rfl rfl rfl rfl (by omega) ?_
                  refine r_loadA ag_43 sz_43 rfl rfl rfl (by first | exact .h .z | exact .h (.s .z) | exact .h (.s (.s .z)) | exact .h (.s (.s (.s .z))) | exact .h (.s (.s (.s (.s .z)))) | exact .h (.s (.s (.s (.s (.s .z))))) | exact .h (.s (.s (.s (.s (.s (.s .z)))))) | exact .h (.s (.s (.s (.s (.s (.s (.s .z))))))) | exact .h (.s (.s (.s (.s (.s (.s (.s (.s .z)))))))) | exact .x .z | exact .x (.s .z) | exact .x (.s (.s .z)) | exact .x (.s (.s (.s .z))) | exact .x (.s (.s (.s (.s .z)))) | exact .x (.s (.s (.s (.s (.s .z))))) | exact .x (.s (.s (.s (.s (.s (.s .z))))))) (by first | rfl | exact hl _ (by omega) | exact hl2 _ (by omega)) ?_
                  refine r_buildSlice sl_46 sz_43 zr_43 rfl rfl rfl rfl rfl (by first | rfl) (fun b60 => ?_)
                  refine r_appendG lk_len lk_one (p := es.getD k lz) sl_46 sl_46 sz_43 zr_43 rfl by_43 rfl rfl rfl rfl rfl (by first | exact .h .z | exact .h (.s .z) | exact .h (.s (.s .z)) | exact .h (.s (.s (.s .z))) | exact .h (.s (.s (.s (.s .z)))) | exact .h (.s (.s (.s (.s (.s .z))))) | exact .h (.s (.s (.s (.s (.s (.s .z)))))) | exact .h (.s (.s (.s (.s (.s (.s (.s .z))))))) | exact .h (.s (.s (.s (.s (.s (.s (.s (.s .z)))))))) | exact .x .z | exact .x (.s .z) | exact .x (.s (.s .z)) | exact .x (.s (.s (.s .z))) | exact .x (.s (.s (.s (.s .z)))) | exact .x (.s (.s (.s (.s (.s .z))))) | exact .x (.s (.s (.s (.s (.s (.s .z))))))) (by first | exact .z | exact (.s .z) | exact (.s (.s .z)) | exact (.s (.s (.s .z))) | exact (.s (.s (.s (.s .z)))) | exact (.s (.s (.s (.s (.s .z))))) | exact (.s (.s (.s (.s (.s (.s .z)))))) | exact (.s (.s (.s (.s (.s (.s (.s .z))))))) | exact (.s (.s (.s (.s (.s (.s (.s (.s .z)))))))) | exact (.s (.s (.s (.s (.s (.s (.s (.s (.s .z)))))))))) (by first | rfl | exact mapG_len _ _) (by omega) (by omega) (fun b61 cap61 junk61 u61 hj61 hc61 => ?_)
                  refine r_assign rfl rfl rfl ?_
                  refine R_nil ?_
                  refine K_bn ?_
                  refine K_tn ?_
                  refine R_region ?_
                  refine r_move rfl rfl rfl ?_
                  first | refine r_addN rfl rfl rfl rfl (i64K (by omega) (by omega)) ?_ | refine r_add rfl rfl rfl rfl (i64K (by omega) (by omega)) ?_
                  refine r_assign rfl rfl rfl ?_
                  refine R_nil ?_
                  refine K_tn ?_
                  first | rw [mmF_0 (ms := es) (ls := ls) (i := k) (by omega), mapG_succ] | rw [mmF_1 (ms := es) (ls := ls) (i := k) (by omega), mapG_succ]
                  first | (exact K_again2 (pre := (fun (k : Nat) (p : RowP) => k ≤ es.length ∧ k * 3 + p.junk.length = p.cap * 3 ∧ k ≤ p.cap)) (Ei := (fun k p => [(0, .slice (some ⟨b, off, none⟩) es.length cap), (1, .slice (some ⟨b2, off2, none⟩) ls.length cap2), (6, .slice (some ⟨p.b, 0, none⟩) k p.cap), (8, .int .i64 (k : Int))])) (Hi := (fun k p => [(p.b, .cells (fm lk (mapG (mmF es ls) k) ++ p.junk).toArray p.u (0, 0))])) (μ := (fun k _ => es.length - k)) (k + 1) (RowP.mk b61 cap61 junk61 u61) (by refine ⟨?_, ?_, ?_⟩ <;> (try simp only) <;> omega) (by omega) (by repeat (first | exact trivial | refine ⟨rfl, ?_⟩)) (by repeat (first | exact .z | apply Rems.s Rem.z | apply Rems.s (Rem.s Rem.z) | apply Rems.s (Rem.s (Rem.s Rem.z)) | apply Rems.s (Rem.s (Rem.s (Rem.s Rem.z))) | apply Rems.s (Rem.s (Rem.s (Rem.s (Rem.s Rem.z)))) | apply Rems.s (Rem.s (Rem.s (Rem.s (Rem.s (Rem.s Rem.z))))) | apply Rems.s (Rem.s (Rem.s (Rem.s (Rem.s (Rem.s (Rem.s Rem.z)))))) | apply Rems.s (Rem.s (Rem.s (Rem.s (Rem.s (Rem.s (Rem.s (Rem.s Rem.z))))))) | apply Rems.s (Rem.s (Rem.s (Rem.s (Rem.s (Rem.s (Rem.s (Rem.s (Rem.s Rem.z)))))))) | apply Rems.s (Rem.s (Rem.s (Rem.s (Rem.s (Rem.s (Rem.s (Rem.s (Rem.s (Rem.s Rem.z)))))))))))) | (exact K_again2 (pre := (fun (k : Nat) (p : RowP) => k ≤ es.length ∧ k * 3 + p.junk.length = p.cap * 3 ∧ k ≤ p.cap)) (Ei := (fun k p => [(0, .slice (some ⟨b, off, none⟩) es.length cap), (1, .slice (some ⟨b2, off2, none⟩) ls.length cap2), (6, .slice (some ⟨p.b, 0, none⟩) k p.cap), (8, .int .i64 (k : Int))])) (Hi := (fun k p => [(p.b, .cells (fm lk (mapG (mmF es ls) k) ++ p.junk).toArray p.u (0, 0))])) (μ := (fun k _ => es.length - k)) (k + 1) (RowP.mk b66 cap66 junk66 u66) (by refine ⟨?_, ?_, ?_⟩ <;> (try simp only) <;> omega) (by omega) (by repeat (first | exact trivial | refine ⟨rfl, ?_⟩)) (by repeat (first | exact .z | apply Rems.s Rem.z | apply Rems.s (Rem.s Rem.z) | apply Rems.s (Rem.s (Rem.s Rem.z)) | apply Rems.s (Rem.s (Rem.s (Rem.s Rem.z))) | apply Rems.s (Rem.s (Rem.s (Rem.s (Rem.s Rem.z)))) | apply Rems.s (Rem.s (Rem.s (Rem.s (Rem.s (Rem.s Rem.z))))) | apply Rems.s (Rem.s (Rem.s (Rem.s (Rem.s (Rem.s (Rem.s Rem.z)))))) | apply Rems.s (Rem.s (Rem.s (Rem.s (Rem.s (Rem.s (Rem.s (Rem.s Rem.z))))))) | apply Rems.s (Rem.s (Rem.s (Rem.s (Rem.s (Rem.s (Rem.s (Rem.s (Rem.s Rem.z)))))))) | apply Rems.s (Rem.s (Rem.s (Rem.s (Rem.s (Rem.s (Rem.s (Rem.s (Rem.s (Rem.s Rem.z))))))))))))
              · first
                | (exfalso; omega)
                |
                  refine R_nil ?_
                  refine K_tn ?_
                  refine K_cond_f rfl ?_
                  refine R_region ?_
                  refine r_move rfl rfl rfl ?_
                  refine r_move rfl rfl rfl ?_
                  refine r_callV cb_87 rfl rfl rfl rfl rfl (l03Mean _ _ _ _ _ _ _ (ownL es ls k ls.length) rfl (fun i hi => fm_take lk_len lz hi) hov (by omega) (by omega)) (by repeat (first | exact .z | refine .s (.h .z) ?_ | refine .s (.h (.s .z)) ?_ | refine .s (.h (.s (.s .z))) ?_ | refine .s (.h (.s (.s (.s .z)))) ?_ | refine .s (.h (.s (.s (.s (.s .z))))) ?_ | refine .s (.h (.s (.s (.s (.s (.s .z)))))) ?_ | refine .s (.h (.s (.s (.s (.s (.s (.s .z))))))) ?_ | refine .s (.h (.s (.s (.s (.s (.s (.s (.s .z)))))))) ?_ | refine .s (.h (.s (.s (.s (.s (.s (.s (.s (.s .z))))))))) ?_ | refine .s (.x .z) ?_ | refine .s (.x (.s .z)) ?_ | refine .s (.x (.s (.s .z))) ?_ | refine .s (.x (.s (.s (.s .z)))) ?_ | refine .s (.x (.s (.s (.s (.s .z))))) ?_ | refine .s (.x (.s (.s (.s (.s (.s .z)))))) ?_ | refine .s (.x (.s (.s (.s (.s (.s (.s .z))))))) ?_)) ?_
                  refine r_buildSlice sl_46 sz_43 zr_43 rfl rfl rfl rfl rfl (by first | rfl) (fun b65 => ?_)
                  refine r_appendG lk_len lk_one (p := meanL (ownL es ls k ls.length)) sl_46 sl_46 sz_43 zr_43 rfl by_43 rfl rfl rfl rfl rfl (by first | exact .h .z | exact .h (.s .z) | exact .h (.s (.s .z)) | exact .h (.s (.s (.s .z))) | exact .h (.s (.s (.s (.s .z)))) | exact .h (.s (.s (.s (.s (.s .z))))) | exact .h (.s (.s (.s (.s (.s (.s .z)))))) | exact .h (.s (.s (.s (.s (.s (.s (.s .z))))))) | exact .h (.s (.s (.s (.s (.s (.s (.s (.s .z)))))))) | exact .x .z | exact .x (.s .z) | exact .x (.s (.s .z)) | exact .x (.s (.s (.s .z))) | exact .x (.s (.s (.s (.s .z)))) | exact .x (.s (.s (.s (.s (.s .z))))) | exact .x (.s (.s (.s (.s (.s (.s .z))))))) (by first | exact .z | exact (.s .z) | exact (.s (.s .z)) | exact (.s (.s (.s .z))) | exact (.s (.s (.s (.s .z)))) | exact (.s (.s (.s (.s (.s .z))))) | exact (.s (.s (.s (.s (.s (.s .z)))))) | exact (.s (.s (.s (.s (.s (.s (.s .z))))))) | exact (.s (.s (.s (.s (.s (.s (.s (.s .z)))))))) | exact (.s (.s (.s (.s (.s (.s (.s (.s (.s .z)))))))))) (by first | rfl | exact mapG_len _ _) (by omega) (by omega) (fun b66 cap66 junk66 u66 hj66 hc66 => ?_)
                  refine r_assign rfl rfl rfl ?_
                  refine R_nil ?_
                  refine K_bn ?_
                  refine K_tn ?_
                  refine R_region ?_
                  refine r_move rfl rfl rfl ?_
                  first | refine r_addN rfl rfl rfl rfl (i64K (by omega) (by omega)) ?_ | refine r_add rfl rfl rfl rfl (i64K (by omega) (by omega)) ?_
                  refine r_assign rfl rfl rfl ?_
                  refine R_nil ?_
                  refine K_tn ?_
                  first | rw [mmF_0 (ms := es) (ls := ls) (i := k) (by omega), mapG_succ] | rw [mmF_1 (ms := es) (ls := ls) (i := k) (by omega), mapG_succ]
                  first | (exact K_again2 (pre := (fun (k : Nat) (p : RowP) => k ≤ es.length ∧ k * 3 + p.junk.length = p.cap * 3 ∧ k ≤ p.cap)) (Ei := (fun k p => [(0, .slice (some ⟨b, off, none⟩) es.length cap), (1, .slice (some ⟨b2, off2, none⟩) ls.length cap2), (6, .slice (some ⟨p.b, 0, none⟩) k p.cap), (8, .int .i64 (k : Int))])) (Hi := (fun k p => [(p.b, .cells (fm lk (mapG (mmF es ls) k) ++ p.junk).toArray p.u (0, 0))])) (μ := (fun k _ => es.length - k)) (k + 1) (RowP.mk b61 cap61 junk61 u61) (by refine ⟨?_, ?_, ?_⟩ <;> (try simp only) <;> omega) (by omega) (by repeat (first | exact trivial | refine ⟨rfl, ?_⟩)) (by repeat (first | exact .z | apply Rems.s Rem.z | apply Rems.s (Rem.s Rem.z) | apply Rems.s (Rem.s (Rem.s Rem.z)) | apply Rems.s (Rem.s (Rem.s (Rem.s Rem.z))) | apply Rems.s (Rem.s (Rem.s (Rem.s (Rem.s Rem.z)))) | apply Rems.s (Rem.s (Rem.s (Rem.s (Rem.s (Rem.s Rem.z))))) | apply Rems.s (Rem.s (Rem.s (Rem.s (Rem.s (Rem.s (Rem.s Rem.z)))))) | apply Rems.s (Rem.s (Rem.s (Rem.s (Rem.s (Rem.s (Rem.s (Rem.s Rem.z))))))) | apply Rems.s (Rem.s (Rem.s (Rem.s (Rem.s (Rem.s (Rem.s (Rem.s (Rem.s Rem.z)))))))) | apply Rems.s (Rem.s (Rem.s (Rem.s (Rem.s (Rem.s (Rem.s (Rem.s (Rem.s (Rem.s Rem.z)))))))))))) | (exact K_again2 (pre := (fun (k : Nat) (p : RowP) => k ≤ es.length ∧ k * 3 + p.junk.length = p.cap * 3 ∧ k ≤ p.cap)) (Ei := (fun k p => [(0, .slice (some ⟨b, off, none⟩) es.length cap), (1, .slice (some ⟨b2, off2, none⟩) ls.length cap2), (6, .slice (some ⟨p.b, 0, none⟩) k p.cap), (8, .int .i64 (k : Int))])) (Hi := (fun k p => [(p.b, .cells (fm lk (mapG (mmF es ls) k) ++ p.junk).toArray p.u (0, 0))])) (μ := (fun k _ => es.length - k)) (k + 1) (RowP.mk b66 cap66 junk66 u66) (by refine ⟨?_, ?_, ?_⟩ <;> (try simp only) <;> omega) (by omega) (by repeat (first | exact trivial | refine ⟨rfl, ?_⟩)) (by repeat (first | exact .z | apply Rems.s Rem.z | apply Rems.s (Rem.s Rem.z) | apply Rems.s (Rem.s (Rem.s Rem.z)) | apply Rems.s (Rem.s (Rem.s (Rem.s Rem.z))) | apply Rems.s (Rem.s (Rem.s (Rem.s (Rem.s Rem.z)))) | apply Rems.s (Rem.s (Rem.s (Rem.s (Rem.s (Rem.s Rem.z))))) | apply Rems.s (Rem.s (Rem.s (Rem.s (Rem.s (Rem.s (Rem.s Rem.z)))))) | apply Rems.s (Rem.s (Rem.s (Rem.s (Rem.s (Rem.s (Rem.s (Rem.s Rem.z))))))) | apply Rems.s (Rem.s (Rem.s (Rem.s (Rem.s (Rem.s (Rem.s (Rem.s (Rem.s Rem.z)))))))) | apply Rems.s (Rem.s (Rem.s (Rem.s (Rem.s (Rem.s (Rem.s (Rem.s (Rem.s (Rem.s Rem.z))))))))))))
      · first
        | (exfalso; omega)
        |
          refine R_nil ?_
          refine K_tn ?_
          refine K_cond_f rfl ?_
          refine K_exit ?_
          refine K_te ?_
          refine K_te ?_
          refine K_be ?_
          refine K_tn ?_
          refine K_seq ?_
          refine R_region ?_
          have hkn : k = es.length := by omega
          subst hkn
          refine r_move rfl rfl rfl ?_
          refine r_assign rfl rfl rfl ?_
          refine r_assign rfl rfl rfl ?_
          refine R_nil ?_
          refine K_tn ?_
          refine K_ret ?_
          refine K_done (H' := [(p.b, .cells (fm lk (mapG (mmF es ls) es.length) ++ p.junk).toArray p.u (0, 0))]) rfl rfl (.s (.tmp rfl) (.s (.tmp rfl) .z)) (by repeat (first | exact .z | apply Rems.s Rem.z | apply Rems.s (Rem.s Rem.z) | apply Rems.s (Rem.s (Rem.s Rem.z)) | apply Rems.s (Rem.s (Rem.s (Rem.s Rem.z))) | apply Rems.s (Rem.s (Rem.s (Rem.s (Rem.s Rem.z)))) | apply Rems.s (Rem.s (Rem.s (Rem.s (Rem.s (Rem.s Rem.z))))) | apply Rems.s (Rem.s (Rem.s (Rem.s (Rem.s (Rem.s (Rem.s Rem.z)))))) | apply Rems.s (Rem.s (Rem.s (Rem.s (Rem.s (Rem.s (Rem.s (Rem.s Rem.z))))))) | apply Rems.s (Rem.s (Rem.s (Rem.s (Rem.s (Rem.s (Rem.s (Rem.s (Rem.s Rem.z)))))))) | apply Rems.s (Rem.s (Rem.s (Rem.s (Rem.s (Rem.s (Rem.s (Rem.s (Rem.s (Rem.s Rem.z))))))))))) ?_
          exact ⟨p.b, p.cap, p.junk, p.u, by rw [hok, mapG_len], by rw [mapG_len]; exact hq, by rw [mapG_len]; exact hqc, rfl⟩

set_option maxRecDepth 20000 in
set_option maxHeartbeats 1600000 in
theorem impl_MM_ok (b len cap : Nat) (l : List Value) (u : TypeId) (fr : Nat × Nat) (es : List Lk) (he : es.length = len) (hl : ∀ i, i < len → takeAt l (0 + i * 3) 3 = some (lk (es.getD i lz))) (b2 off2 len2 cap2 : Nat) (l2 : List Value) (u2 : TypeId) (fr2 : Nat × Nat) (ls : List Lk) (he2 : ls.length = len2) (hl2 : ∀ i, i < len2 → takeAt l2 (off2 + i * 3) 3 = some (lk (ls.getD i lz))) (hb : len ≤ 1048576) (hb2 : len2 ≤ 1048576) (hok : lkCode es ls = 0) (junk : List Value) (hfm : l = fm lk es ++ junk) : Go.Sl.Spec Try.prog 46 [.slice (some ⟨b, 0, none⟩) len cap, .slice (some ⟨b2, off2, none⟩) len2 cap2] [(b, .cells l.toArray u fr), (b2, .cells l2.toArray u2 fr2)] [] (RowGC lk (mapG (mmF es ls) es.length) 3 (lkCode es ls)) := by
  refine spec_of Try.func46 rfl Try.ntmps46 rfl (fun w0 => ?_)
  subst he
  subst he2
  obtain ⟨hva, hvb, h0, _, hm10⟩ := lkCode_ok hok
  subst hfm
  refine K_seq ?_
  refine R_region ?_
  refine r_assign rfl rfl rfl ?_
  refine r_assign rfl rfl rfl ?_
  refine R_nil ?_
  refine K_tn ?_
  refine K_seq ?_
  refine K_seq ?_
  refine R_region ?_
  refine r_move rfl rfl rfl ?_
  refine r_move rfl rfl rfl ?_
  refine r_callV cb_92 rfl rfl rfl rfl rfl (markCode _ _ _ _ _ _ _ es rfl hl _ _ _ _ _ _ _ ls rfl hl2 (by omega) (by omega)) (by repeat (first | exact .z | refine .s (.h .z) ?_ | refine .s (.h (.s .z)) ?_ | refine .s (.h (.s (.s .z))) ?_ | refine .s (.h (.s (.s (.s .z)))) ?_ | refine .s (.h (.s (.s (.s (.s .z))))) ?_ | refine .s (.h (.s (.s (.s (.s (.s .z)))))) ?_ | refine .s (.h (.s (.s (.s (.s (.s (.s .z))))))) ?_ | refine .s (.h (.s (.s (.s (.s (.s (.s (.s .z)))))))) ?_ | refine .s (.h (.s (.s (.s (.s (.s (.s (.s (.s .z))))))))) ?_ | refine .s (.x .z) ?_ | refine .s (.x (.s .z)) ?_ | refine .s (.x (.s (.s .z))) ?_ | refine .s (.x (.s (.s (.s .z)))) ?_ | refine .s (.x (.s (.s (.s (.s .z))))) ?_ | refine .s (.x (.s (.s (.s (.s (.s .z)))))) ?_ | refine .s (.x (.s (.s (.s (.s (.s (.s .z))))))) ?_)) ?_
  refine r_assign rfl rfl rfl ?_
  refine R_nil ?_
  refine K_tn ?_
  refine K_seq ?_
  refine R_region ?_
  refine r_move rfl rfl rfl ?_
  refine s_neq rfl rfl rfl rfl (fun h16 => ?_) (fun h16 => ?_)
  · first
    | (exfalso; omega)
    |
      refine R_nil ?_
      refine K_tn ?_
      refine K_cond_t rfl ?_
      refine K_seq ?_
      refine R_region ?_
      refine r_move rfl rfl rfl ?_
      refine r_assign rfl rfl rfl ?_
      refine r_assign rfl rfl rfl ?_
      refine R_nil ?_
      refine K_tn ?_
      refine K_ret ?_
      refine K_tr ?_
      refine K_done (H' := [(b19, .cells (fm lk (mapG (mmF es ls) es.length) ++ junk19).toArray u19 (0, 0))]) rfl rfl (.s (.tmp rfl) (.s (.tmp rfl) .z)) (by repeat (first | exact .z | apply Rems.s Rem.z | apply Rems.s (Rem.s Rem.z) | apply Rems.s (Rem.s (Rem.s Rem.z)) | apply Rems.s (Rem.s (Rem.s (Rem.s Rem.z))) | apply Rems.s (Rem.s (Rem.s (Rem.s (Rem.s Rem.z)))) | apply Rems.s (Rem.s (Rem.s (Rem.s (Rem.s (Rem.s Rem.z))))) | apply Rems.s (Rem.s (Rem.s (Rem.s (Rem.s (Rem.s (Rem.s Rem.z)))))) | apply Rems.s (Rem.s (Rem.s (Rem.s (Rem.s (Rem.s (Rem.s (Rem.s Rem.z))))))) | apply Rems.s (Rem.s (Rem.s (Rem.s (Rem.s (Rem.s (Rem.s (Rem.s (Rem.s Rem.z)))))))) | apply Rems.s (Rem.s (Rem.s (Rem.s (Rem.s (Rem.s (Rem.s (Rem.s (Rem.s (Rem.s Rem.z))))))))))) ?_
      exact ⟨b19, cap19, junk19, u19, by rw [hok, mapG_len], by rw [mapG_len]; exact hj19, by rw [mapG_len]; exact hc19, rfl⟩
  · first
    | (exfalso; omega)
    |
      refine R_nil ?_
      refine K_tn ?_
      refine K_cond_f rfl ?_
      refine K_skip ?_
      refine K_tn ?_
      refine K_seq ?_
      refine R_region ?_
      refine r_move rfl rfl rfl ?_
      refine r_callR cb_95 rfl rfl rfl rfl rfl (cloneLook _ _ _ _ _ _ _ rfl (by omega)) (by repeat (first | exact .z | refine .s (.h .z) ?_ | refine .s (.h (.s .z)) ?_ | refine .s (.h (.s (.s .z))) ?_ | refine .s (.h (.s (.s (.s .z)))) ?_ | refine .s (.h (.s (.s (.s (.s .z))))) ?_ | refine .s (.h (.s (.s (.s (.s (.s .z)))))) ?_ | refine .s (.h (.s (.s (.s (.s (.s (.s .z))))))) ?_ | refine .s (.h (.s (.s (.s (.s (.s (.s (.s .z)))))))) ?_ | refine .s (.h (.s (.s (.s (.s (.s (.s (.s (.s .z))))))))) ?_ | refine .s (.x .z) ?_ | refine .s (.x (.s .z)) ?_ | refine .s (.x (.s (.s .z))) ?_ | refine .s (.x (.s (.s (.s .z)))) ?_ | refine .s (.x (.s (.s (.s (.s .z))))) ?_ | refine .s (.x (.s (.s (.s (.s (.s .z)))))) ?_ | refine .s (.x (.s (.s (.s (.s (.s (.s .z))))))) ?_)) ?_
      rintro _ _ ⟨b19, cap19, junk19, u19, rfl, hj19, hc19, rfl⟩
      refine r_assign rfl rfl rfl ?_
      refine R_nil ?_
      refine K_tn ?_
      refine K_seq ?_
      refine K_seq ?_
      refine R_region ?_
      refine r_move rfl rfl rfl ?_
      refine r_lenS sl_46 rfl rfl rfl ?_
      refine r_move rfl rfl rfl ?_
      refine R_nil ?_
      refine K_tn ?_
      refine K_block ?_
      refine K_loop (fun (k : Nat) => k ≤ es.length) (fun k => [(0, .slice (some ⟨b, 0, none⟩) es.length cap), (1, .slice (some ⟨b2, off2, none⟩) ls.length cap2), (7, .slice (some ⟨b19, 0, none⟩) es.length cap19), (21, .int .i64 (es.length : Int)), (22, .int .i64 (k : Int))]) (fun k => [(b19, .cells (fm lk (mvL es (mmF es ls) k) ++ junk19).toArray u19 (0, 0))]) (fun k => es.length - k) 0 (by omega) (by repeat (first | exact trivial | refine ⟨rfl, ?_⟩)) (by repeat (first | exact .z | apply Rems.s Rem.z | apply Rems.s (Rem.s Rem.z) | apply Rems.s (Rem.s (Rem.s Rem.z)) | apply Rems.s (Rem.s (Rem.s (Rem.s Rem.z))) | apply Rems.s (Rem.s (Rem.s (Rem.s (Rem.s Rem.z)))) | apply Rems.s (Rem.s (Rem.s (Rem.s (Rem.s (Rem.s Rem.z))))) | apply Rems.s (Rem.s (Rem.s (Rem.s (Rem.s (Rem.s (Rem.s Rem.z)))))) | apply Rems.s (Rem.s (Rem.s (Rem.s (Rem.s (Rem.s (Rem.s (Rem.s Rem.z))))))) | apply Rems.s (Rem.s (Rem.s (Rem.s (Rem.s (Rem.s (Rem.s (Rem.s (Rem.s Rem.z)))))))) | apply Rems.s (Rem.s (Rem.s (Rem.s (Rem.s (Rem.s (Rem.s (Rem.s (Rem.s (Rem.s Rem.z))))))))))) (fun k hk => ?_)
      refine K_seq ?_
      refine R_region ?_
      refine s_lss rfl rfl rfl rfl (fun h23 => ?_) (fun h23 => ?_)
      · first
        | (exfalso; omega)
        |
          refine R_nil ?_
          refine K_tn ?_
          refine K_seq ?_
          refine K_cond_t rfl ?_
          refine K_skip ?_
          refine K_tn ?_
          refine K_seq ?_
          refine K_block ?_
          refine K_seq ?_
          refine R_region ?_
          refine r_move rfl rfl rfl ?_
          refine r_assign rfl rfl rfl ?_
          refine R_nil ?_
          refine K_tn ?_
          refine K_seq ?_
          refine R_region ?_
          refine r_buildSlice sl_46 sz_43 zr_43 rfl rfl rfl rfl rfl (by first | rfl) (fun b25 => ?_)
          refine r_assign rfl rfl rfl ?_
          refine R_nil ?_
          refine K_tn ?_
          refine K_seq ?_
          refine K_seq ?_
          refine R_region ?_
          refine r_move rfl rfl rfl ?_
          refine r_lenS sl_46 rfl rfl rfl ?_
          refine r_move rfl rfl rfl ?_
          refine R_nil ?_
          refine K_tn ?_
          refine K_block ?_
          refine K_loop2 (fun (j : Nat) (q : RowP) => j ≤ ls.length ∧ (ownL es ls k j).length * 3 + q.junk.length = q.cap * 3 ∧ (ownL es ls k j).length ≤ q.cap) (fun j q => [(0, .slice (some ⟨b, 0, none⟩) es.length cap), (1, .slice (some ⟨b2, off2, none⟩) ls.length cap2), (7, .slice (some ⟨b19, 0, none⟩) es.length cap19), (21, .int .i64 (es.length : Int)), (22, .int .i64 (k : Int)), (8, .int .i64 (k : Int)), (26, .slice (some ⟨b2, off2, none⟩) ls.length cap2), (27, .int .i64 (ls.length : Int)), (9, .slice (some ⟨q.b, 0, none⟩) (ownL es ls k j).length q.cap), (28, .int .i64 (j : Int))]) (fun j q => [(q.b, .cells (fm lk (ownL es ls k j) ++ q.junk).toArray q.u (0, 0)), (b19, .cells (fm lk (mvL es (mmF es ls) k) ++ junk19).toArray u19 (0, 0))]) (fun j _ => ls.length - j) 0 ⟨b25, 0, [], 43⟩ (by exact ⟨Nat.zero_le _, rfl, Nat.le_refl _⟩) (by repeat (first | exact trivial | refine ⟨rfl, ?_⟩)) (by repeat (first | exact .z | apply Rems.s Rem.z | apply Rems.s (Rem.s Rem.z) | apply Rems.s (Rem.s (Rem.s Rem.z)) | apply Rems.s (Rem.s (Rem.s (Rem.s Rem.z))) | apply Rems.s (Rem.s (Rem.s (Rem.s (Rem.s Rem.z)))) | apply Rems.s (Rem.s (Rem.s (Rem.s (Rem.s (Rem.s Rem.z))))) | apply Rems.s (Rem.s (Rem.s (Rem.s (Rem.s (Rem.s (Rem.s Rem.z)))))) | apply Rems.s (Rem.s (Rem.s (Rem.s (Rem.s (Rem.s (Rem.s (Rem.s Rem.z))))))) | apply Rems.s (Rem.s (Rem.s (Rem.s (Rem.s (Rem.s (Rem.s (Rem.s (Rem.s Rem.z)))))))) | apply Rems.s (Rem.s (Rem.s (Rem.s (Rem.s (Rem.s (Rem.s (Rem.s (Rem.s (Rem.s Rem.z))))))))))) (fun j q hq1 => ?_)
          obtain ⟨hj, hi1, hi2⟩ := hq1
          have hle0 := ownL_le (ms := es) (ls := ls) (i := k) j
          refine K_seq ?_
          refine R_region ?_
          refine s_lss rfl rfl rfl rfl (fun h29 => ?_) (fun h29 => ?_)
          · first
            | (exfalso; omega)
            |
              refine R_nil ?_
              refine K_tn ?_
              refine K_seq ?_
              refine K_cond_t rfl ?_
              refine K_skip ?_
              refine K_tn ?_
              refine K_seq ?_
              refine K_block ?_
              refine K_seq ?_
              refine R_region ?_
              have hvj := getD_all hvb (i := j) (by omega) lz
              refine r_indexS sl_46 sz_43 rfl rfl rfl rfl (by omega) ?_
              refine r_loadA ag_43 sz_43 rfl rfl rfl (by first | exact .h .z | exact .h (.s .z) | exact .h (.s (.s .z)) | exact .h (.s (.s (.s .z))) | exact .h (.s (.s (.s (.s .z)))) | exact .h (.s (.s (.s (.s (.s .z))))) | exact .h (.s (.s (.s (.s (.s (.s .z)))))) | exact .h (.s (.s (.s (.s (.s (.s (.s .z))))))) | exact .h (.s (.s (.s (.s (.s (.s (.s (.s .z)))))))) | exact .x .z | exact .x (.s .z) | exact .x (.s (.s .z)) | exact .x (.s (.s (.s .z))) | exact .x (.s (.s (.s (.s .z)))) | exact .x (.s (.s (.s (.s (.s .z))))) | exact .x (.s (.s (.s (.s (.s (.s .z))))))) (by first | rfl | exact hl _ (by omega) | exact hl2 _ (by omega)) ?_
              refine r_alloc zr_43 rfl rfl (fun b11 => ?_)
              refine r_storeA sz_43 rfl rfl rfl (by first | rfl | exact fm_bound lk_len (by rw [mvL_len (by omega)]; omega)) (by first | rfl | exact lk_one _) (by first | exact .z | exact (.s .z) | exact (.s (.s .z)) | exact (.s (.s (.s .z))) | exact (.s (.s (.s (.s .z)))) | exact (.s (.s (.s (.s (.s .z))))) | exact (.s (.s (.s (.s (.s (.s .z)))))) | exact (.s (.s (.s (.s (.s (.s (.s .z))))))) | exact (.s (.s (.s (.s (.s (.s (.s (.s .z)))))))) | exact (.s (.s (.s (.s (.s (.s (.s (.s (.s .z)))))))))) (by first | rfl | exact fm_bound lk_len (by rw [mvL_len (by omega)]; omega)) ?_
              refine R_nil ?_
              refine K_tn ?_
              refine K_seq ?_
              refine R_region ?_
              refine r_move rfl rfl rfl ?_
              refine r_loadA ag_43 sz_43 rfl rfl rfl (by first | exact .h .z | exact .h (.s .z) | exact .h (.s (.s .z)) | exact .h (.s (.s (.s .z))) | exact .h (.s (.s (.s (.s .z)))) | exact .h (.s (.s (.s (.s (.s .z))))) | exact .h (.s (.s (.s (.s (.s (.s .z)))))) | exact .h (.s (.s (.s (.s (.s (.s (.s .z))))))) | exact .h (.s (.s (.s (.s (.s (.s (.s (.s .z)))))))) | exact .x .z | exact .x (.s .z) | exact .x (.s (.s .z)) | exact .x (.s (.s (.s .z))) | exact .x (.s (.s (.s (.s .z)))) | exact .x (.s (.s (.s (.s (.s .z))))) | exact .x (.s (.s (.s (.s (.s (.s .z))))))) (by first | rfl | exact hl _ (by omega) | exact hl2 _ (by omega)) ?_
              refine r_callV cb_93 rfl rfl rfl rfl rfl (nearestMark _ _ _ _ _ _ _ es rfl hl hva (by omega) (ls.getD j lz) hvj (by omega)) (by repeat (first | exact .z | refine .s (.h .z) ?_ | refine .s (.h (.s .z)) ?_ | refine .s (.h (.s (.s .z))) ?_ | refine .s (.h (.s (.s (.s .z)))) ?_ | refine .s (.h (.s (.s (.s (.s .z))))) ?_ | refine .s (.h (.s (.s (.s (.s (.s .z)))))) ?_ | refine .s (.h (.s (.s (.s (.s (.s (.s .z))))))) ?_ | refine .s (.h (.s (.s (.s (.s (.s (.s (.s .z)))))))) ?_ | refine .s (.h (.s (.s (.s (.s (.s (.s (.s (.s .z))))))))) ?_ | refine .s (.x .z) ?_ | refine .s (.x (.s .z)) ?_ | refine .s (.x (.s (.s .z))) ?_ | refine .s (.x (.s (.s (.s .z)))) ?_ | refine .s (.x (.s (.s (.s (.s .z))))) ?_ | refine .s (.x (.s (.s (.s (.s (.s .z)))))) ?_ | refine .s (.x (.s (.s (.s (.s (.s (.s .z))))))) ?_)) ?_
              refine r_move rfl rfl rfl ?_
              refine s_eql rfl rfl rfl rfl (fun h36 => ?_) (fun h36 => ?_)
              · first
                | (exfalso; omega)
                |
                  refine R_nil ?_
                  refine K_tn ?_
                  refine K_cond_t rfl ?_
                  refine R_region ?_
                  refine r_move rfl rfl rfl ?_
                  refine r_loadA ag_43 sz_43 rfl rfl rfl (by first | exact .h .z | exact .h (.s .z) | exact .h (.s (.s .z)) | exact .h (.s (.s (.s .z))) | exact .h (.s (.s (.s (.s .z)))) | exact .h (.s (.s (.s (.s (.s .z))))) | exact .h (.s (.s (.s (.s (.s (.s .z)))))) | exact .h (.s (.s (.s (.s (.s (.s (.s .z))))))) | exact .h (.s (.s (.s (.s (.s (.s (.s (.s .z)))))))) | exact .x .z | exact .x (.s .z) | exact .x (.s (.s .z)) | exact .x (.s (.s (.s .z))) | exact .x (.s (.s (.s (.s .z)))) | exact .x (.s (.s (.s (.s (.s .z))))) | exact .x (.s (.s (.s (.s (.s (.s .z))))))) (by first | rfl | exact hl _ (by omega) | exact hl2 _ (by omega)) ?_
                  refine r_buildSlice sl_46 sz_43 zr_43 rfl rfl rfl rfl rfl (by first | rfl) (fun b39 => ?_)
                  refine r_appendG lk_len lk_one (p := ls.getD j lz) sl_46 sl_46 sz_43 zr_43 rfl by_43 rfl rfl rfl rfl rfl (by first | exact .h .z | exact .h (.s .z) | exact .h (.s (.s .z)) | exact .h (.s (.s (.s .z))) | exact .h (.s (.s (.s (.s .z)))) | exact .h (.s (.s (.s (.s (.s .z))))) | exact .h (.s (.s (.s (.s (.s (.s .z)))))) | exact .h (.s (.s (.s (.s (.s (.s (.s .z))))))) | exact .h (.s (.s (.s (.s (.s (.s (.s (.s .z)))))))) | exact .x .z | exact .x (.s .z) | exact .x (.s (.s .z)) | exact .x (.s (.s (.s .z))) | exact .x (.s (.s (.s (.s .z)))) | exact .x (.s (.s (.s (.s (.s .z))))) | exact .x (.s (.s (.s (.s (.s (.s .z))))))) (by first | exact .z | exact (.s .z) | exact (.s (.s .z)) | exact (.s (.s (.s .z))) | exact (.s (.s (.s (.s .z)))) | exact (.s (.s (.s (.s (.s .z))))) | exact (.s (.s (.s (.s (.s (.s .z)))))) | exact (.s (.s (.s (.s (.s (.s (.s .z))))))) | exact (.s (.s (.s (.s (.s (.s (.s (.s .z)))))))) | exact (.s (.s (.s (.s (.s (.s (.s (.s (.s .z)))))))))) (by first | rfl | exact mapG_len _ _) (by omega) (by omega) (fun b40 cap40 junk40 u40 hj40 hc40 => ?_)
                  refine r_assign rfl rfl rfl ?_
                  refine R_nil ?_
                  refine K_bn ?_
                  refine K_tn ?_
                  refine R_region ?_
                  first | refine r_addN rfl rfl rfl rfl (i64K (by omega) (by omega)) ?_ | refine r_add rfl rfl rfl rfl (i64K (by omega) (by omega)) ?_
                  refine r_move rfl rfl rfl ?_
                  refine R_nil ?_
                  refine K_tn ?_
                  first | (have hE := ownL_t (ms := es) (ls := ls) (i := k) (j := j) (by omega); have hEl : (ownL es ls k j).length + 1 = (ownL es ls k (j + 1)).length := (by rw [← hE]; simp); rw [hE, hEl]; rw [hEl] at hj40 hc40) | (have hE := ownL_f (ms := es) (ls := ls) (i := k) (j := j) (by omega); have hEl := congrArg List.length hE; rw [hE])
                  first | (exact K_again2 (pre := (fun (j : Nat) (q : RowP) => j ≤ ls.length ∧ (ownL es ls k j).length * 3 + q.junk.length = q.cap * 3 ∧ (ownL es ls k j).length ≤ q.cap)) (Ei := (fun j q => [(0, .slice (some ⟨b, 0, none⟩) es.length cap), (1, .slice (some ⟨b2, off2, none⟩) ls.length cap2), (7, .slice (some ⟨b19, 0, none⟩) es.length cap19), (21, .int .i64 (es.length : Int)), (22, .int .i64 (k : Int)), (8, .int .i64 (k : Int)), (26, .slice (some ⟨b2, off2, none⟩) ls.length cap2), (27, .int .i64 (ls.length : Int)), (9, .slice (some ⟨q.b, 0, none⟩) (ownL es ls k j).length q.cap), (28, .int .i64 (j : Int))])) (Hi := (fun j q => [(q.b, .cells (fm lk (ownL es ls k j) ++ q.junk).toArray q.u (0, 0)), (b19, .cells (fm lk (mvL es (mmF es ls) k) ++ junk19).toArray u19 (0, 0))])) (μ := (fun j _ => ls.length - j)) (j + 1) (RowP.mk b40 cap40 junk40 u40) (by refine ⟨?_, ?_, ?_⟩ <;> (try simp only) <;> omega) (by omega) (by repeat (first | exact trivial | refine ⟨rfl, ?_⟩)) (by repeat (first | exact .z | apply Rems.s Rem.z | apply Rems.s (Rem.s Rem.z) | apply Rems.s (Rem.s (Rem.s Rem.z)) | apply Rems.s (Rem.s (Rem.s (Rem.s Rem.z))) | apply Rems.s (Rem.s (Rem.s (Rem.s (Rem.s Rem.z)))) | apply Rems.s (Rem.s (Rem.s (Rem.s (Rem.s (Rem.s Rem.z))))) | apply Rems.s (Rem.s (Rem.s (Rem.s (Rem.s (Rem.s (Rem.s Rem.z)))))) | apply Rems.s (Rem.s (Rem.s (Rem.s (Rem.s (Rem.s (Rem.s (Rem.s Rem.z))))))) | apply Rems.s (Rem.s (Rem.s (Rem.s (Rem.s (Rem.s (Rem.s (Rem.s (Rem.s Rem.z)))))))) | apply Rems.s (Rem.s (Rem.s (Rem.s (Rem.s (Rem.s (Rem.s (Rem.s (Rem.s (Rem.s Rem.z)))))))))))) | (exact K_again2 (pre := (fun (j : Nat) (q : RowP) => j ≤ ls.length ∧ (ownL es ls k j).length * 3 + q.junk.length = q.cap * 3 ∧ (ownL es ls k j).length ≤ q.cap)) (Ei := (fun j q => [(0, .slice (some ⟨b, 0, none⟩) es.length cap), (1, .slice (some ⟨b2, off2, none⟩) ls.length cap2), (7, .slice (some ⟨b19, 0, none⟩) es.length cap19), (21, .int .i64 (es.length : Int)), (22, .int .i64 (k : Int)), (8, .int .i64 (k : Int)), (26, .slice (some ⟨b2, off2, none⟩) ls.length cap2), (27, .int .i64 (ls.length : Int)), (9, .slice (some ⟨q.b, 0, none⟩) (ownL es ls k j).length q.cap), (28, .int .i64 (j : Int))])) (Hi := (fun j q => [(q.b, .cells (fm lk (ownL es ls k j) ++ q.junk).toArray q.u (0, 0)), (b19, .cells (fm lk (mvL es (mmF es ls) k) ++ junk19).toArray u19 (0, 0))])) (μ := (fun j _ => ls.length - j)) (j + 1) q (by refine ⟨?_, ?_, ?_⟩ <;> (try simp only) <;> omega) (by omega) (by repeat (first | exact trivial | refine ⟨rfl, ?_⟩)) (by repeat (first | exact .z | apply Rems.s Rem.z | apply Rems.s (Rem.s Rem.z) | apply Rems.s (Rem.s (Rem.s Rem.z)) | apply Rems.s (Rem.s (Rem.s (Rem.s Rem.z))) | apply Rems.s (Rem.s (Rem.s (Rem.s (Rem.s Rem.z)))) | apply Rems.s (Rem.s (Rem.s (Rem.s (Rem.s (Rem.s Rem.z))))) | apply Rems.s (Rem.s (Rem.s (Rem.s (Rem.s (Rem.s (Rem.s Rem.z)))))) | apply Rems.s (Rem.s (Rem.s (Rem.s (Rem.s (Rem.s (Rem.s (Rem.s Rem.z))))))) | apply Rems.s (Rem.s (Rem.s (Rem.s (Rem.s (Rem.s (Rem.s (Rem.s (Rem.s Rem.z)))))))) | apply Rems.s (Rem.s (Rem.s (Rem.s (Rem.s (Rem.s (Rem.s (Rem.s (Rem.s (Rem.s Rem.z))))))))))))
              · first
                | (exfalso; omega)
                |
                  refine R_nil ?_
                  refine K_tn ?_
                  refine K_cond_f rfl ?_
                  refine K_skip ?_
                  refine K_bn ?_
                  refine K_tn ?_
                  refine R_region ?_
                  first | refine r_addN rfl rfl rfl rfl (i64K (by omega) (by omega)) ?_ | refine r_add rfl rfl rfl rfl (i64K (by omega) (by omega)) ?_
                  refine r_move rfl rfl rfl ?_
                  refine R_nil ?_
                  refine K_tn ?_
                  first | (have hE := ownL_t (ms := es) (ls := ls) (i := k) (j := j) (by omega); have hEl : (ownL es ls k j).length + 1 = (ownL es ls k (j + 1)).length := (by rw [← hE]; simp); rw [hE, hEl]; rw [hEl] at hj40 hc40) | (have hE := ownL_f (ms := es) (ls := ls) (i := k) (j := j) (by omega); have hEl := congrArg List.length hE; rw [hE])
                  first | (exact K_again2 (pre := (fun (j : Nat) (q : RowP) => j ≤ ls.length ∧ (ownL es ls k j).length * 3 + q.junk.length = q.cap * 3 ∧ (ownL es ls k j).length ≤ q.cap)) (Ei := (fun j q => [(0, .slice (some ⟨b, 0, none⟩) es.length cap), (1, .slice (some ⟨b2, off2, none⟩) ls.length cap2), (7, .slice (some ⟨b19, 0, none⟩) es.length cap19), (21, .int .i64 (es.length : Int)), (22, .int .i64 (k : Int)), (8, .int .i64 (k : Int)), (26, .slice (some ⟨b2, off2, none⟩) ls.length cap2), (27, .int .i64 (ls.length : Int)), (9, .slice (some ⟨q.b, 0, none⟩) (ownL es ls k j).length q.cap), (28, .int .i64 (j : Int))])) (Hi := (fun j q => [(q.b, .cells (fm lk (ownL es ls k j) ++ q.junk).toArray q.u (0, 0)), (b19, .cells (fm lk (mvL es (mmF es ls) k) ++ junk19).toArray u19 (0, 0))])) (μ := (fun j _ => ls.length - j)) (j + 1) (RowP.mk b40 cap40 junk40 u40) (by refine ⟨?_, ?_, ?_⟩ <;> (try simp only) <;> omega) (by omega) (by repeat (first | exact trivial | refine ⟨rfl, ?_⟩)) (by repeat (first | exact .z | apply Rems.s Rem.z | apply Rems.s (Rem.s Rem.z) | apply Rems.s (Rem.s (Rem.s Rem.z)) | apply Rems.s (Rem.s (Rem.s (Rem.s Rem.z))) | apply Rems.s (Rem.s (Rem.s (Rem.s (Rem.s Rem.z)))) | apply Rems.s (Rem.s (Rem.s (Rem.s (Rem.s (Rem.s Rem.z))))) | apply Rems.s (Rem.s (Rem.s (Rem.s (Rem.s (Rem.s (Rem.s Rem.z)))))) | apply Rems.s (Rem.s (Rem.s (Rem.s (Rem.s (Rem.s (Rem.s (Rem.s Rem.z))))))) | apply Rems.s (Rem.s (Rem.s (Rem.s (Rem.s (Rem.s (Rem.s (Rem.s (Rem.s Rem.z)))))))) | apply Rems.s (Rem.s (Rem.s (Rem.s (Rem.s (Rem.s (Rem.s (Rem.s (Rem.s (Rem.s Rem.z)))))))))))) | (exact K_again2 (pre := (fun (j : Nat) (q : RowP) => j ≤ ls.length ∧ (ownL es ls k j).length * 3 + q.junk.length = q.cap * 3 ∧ (ownL es ls k j).length ≤ q.cap)) (Ei := (fun j q => [(0, .slice (some ⟨b, 0, none⟩) es.length cap), (1, .slice (some ⟨b2, off2, none⟩) ls.length cap2), (7, .slice (some ⟨b19, 0, none⟩) es.length cap19), (21, .int .i64 (es.length : Int)), (22, .int .i64 (k : Int)), (8, .int .i64 (k : Int)), (26, .slice (some ⟨b2, off2, none⟩) ls.length cap2), (27, .int .i64 (ls.length : Int)), (9, .slice (some ⟨q.b, 0, none⟩) (ownL es ls k j).length q.cap), (28, .int .i64 (j : Int))])) (Hi := (fun j q => [(q.b, .cells (fm lk (ownL es ls k j) ++ q.junk).toArray q.u (0, 0)), (b19, .cells (fm lk (mvL es (mmF es ls) k) ++ junk19).toArray u19 (0, 0))])) (μ := (fun j _ => ls.length - j)) (j + 1) q (by refine ⟨?_, ?_, ?_⟩ <;> (try simp only) <;> omega) (by omega) (by repeat (first | exact trivial | refine ⟨rfl, ?_⟩)) (by repeat (first | exact .z | apply Rems.s Rem.z | apply Rems.s (Rem.s Rem.z) | apply Rems.s (Rem.s (Rem.s Rem.z)) | apply Rems.s (Rem.s (Rem.s (Rem.s Rem.z))) | apply Rems.s (Rem.s (Rem.s (Rem.s (Rem.s Rem.z)))) | apply Rems.s (Rem.s (Rem.s (Rem.s (Rem.s (Rem.s Rem.z))))) | apply Rems.s (Rem.s (Rem.s (Rem.s (Rem.s (Rem.s (Rem.s Rem.z)))))) | apply Rems.s (Rem.s (Rem.s (Rem.s (Rem.s (Rem.s (Rem.s (Rem.s Rem.z))))))) | apply Rems.s (Rem.s (Rem.s (Rem.s (Rem.s (Rem.s (Rem.s (Rem.s (Rem.s Rem.z)))))))) | apply Rems.s (Rem.s (Rem.s (Rem.s (Rem.s (Rem.s (Rem.s (Rem.s (Rem.s (Rem.s Rem.z))))))))))))
          · first
            | (exfalso; omega)
            |
              refine R_nil ?_
              refine K_tn ?_
              refine K_seq ?_
              refine K_cond_f rfl ?_
              refine K_exit ?_
              refine K_te ?_
              refine K_te ?_
              refine K_be ?_
              refine K_tn ?_
              refine K_seq ?_
              refine R_region ?_
              have hjn : j = ls.length := by omega
              subst hjn
              have hov := ownL_valid (ms := es) (i := k) hvb ls.length (Nat.le_refl _)
              refine r_move rfl rfl rfl ?_
              refine r_lenS sl_46 rfl rfl rfl ?_
              refine s_gtr rfl rfl rfl rfl (fun h44 => ?_) (fun h44 => ?_)
              · first
                | (exfalso; omega)
                |
                  refine R_nil ?_
                  refine K_tn ?_
                  refine K_cond_t rfl ?_
                  refine R_region ?_
                  refine r_move rfl rfl rfl ?_
                  refine r_move rfl rfl rfl ?_
                  refine r_move rfl rfl rfl ?_
                  refine r_callV cb_89 rfl rfl rfl rfl rfl (meanLookI _ _ _ _ _ _ _ (ownL es ls k ls.length) rfl (fun i hi => fm_take lk_len lz hi) hov (by omega) (by omega) hi2) (by repeat (first | exact .z | refine .s (.h .z) ?_ | refine .s (.h (.s .z)) ?_ | refine .s (.h (.s (.s .z))) ?_ | refine .s (.h (.s (.s (.s .z)))) ?_ | refine .s (.h (.s (.s (.s (.s .z))))) ?_ | refine .s (.h (.s (.s (.s (.s (.s .z)))))) ?_ | refine .s (.h (.s (.s (.s (.s (.s (.s .z))))))) ?_ | refine .s (.h (.s (.s (.s (.s (.s (.s (.s .z)))))))) ?_ | refine .s (.h (.s (.s (.s (.s (.s (.s (.s (.s .z))))))))) ?_ | refine .s (.x .z) ?_ | refine .s (.x (.s .z)) ?_ | refine .s (.x (.s (.s .z))) ?_ | refine .s (.x (.s (.s (.s .z)))) ?_ | refine .s (.x (.s (.s (.s (.s .z))))) ?_ | refine .s (.x (.s (.s (.s (.s (.s .z)))))) ?_ | refine .s (.x (.s (.s (.s (.s (.s (.s .z))))))) ?_)) ?_
                  refine r_indexS sl_46 sz_43 rfl rfl rfl rfl (by omega) ?_
                  refine r_storeA sz_43 rfl rfl rfl (by first | rfl | exact fm_bound lk_len (by rw [mvL_len (by omega)]; omega)) (by first | rfl | exact lk_one _) (by first | exact .z | exact (.s .z) | exact (.s (.s .z)) | exact (.s (.s (.s .z))) | exact (.s (.s (.s (.s .z)))) | exact (.s (.s (.s (.s (.s .z))))) | exact (.s (.s (.s (.s (.s (.s .z)))))) | exact (.s (.s (.s (.s (.s (.s (.s .z))))))) | exact (.s (.s (.s (.s (.s (.s (.s (.s .z)))))))) | exact (.s (.s (.s (.s (.s (.s (.s (.s (.s .z)))))))))) (by first | rfl | exact fm_bound lk_len (by rw [mvL_len (by omega)]; omega)) ?_
                  refine R_nil ?_
                  refine K_bn ?_
                  refine K_tn ?_
                  refine R_region ?_
                  first | refine r_addN rfl rfl rfl rfl (i64K (by omega) (by omega)) ?_ | refine r_add rfl rfl rfl rfl (i64K (by omega) (by omega)) ?_
                  refine r_move rfl rfl rfl ?_
                  refine R_nil ?_
                  refine K_tn ?_
                  first | rw [mmF_1 (ms := es) (ls := ls) (i := k) (by omega), fm_put lk_len _ (by rw [mvL_len (by omega)]; omega), mvL_set (by omega)] | rw [mvL_keep (ms := es) (f := mmF es ls) (k := k) (by omega) (mmF_0 (ms := es) (ls := ls) (i := k) (by omega))]
                  exact K_again (k + 1) (by omega) (by omega) (by repeat (first | exact trivial | refine ⟨rfl, ?_⟩)) (by repeat (first | exact .z | apply Rems.s Rem.z | apply Rems.s (Rem.s Rem.z) | apply Rems.s (Rem.s (Rem.s Rem.z)) | apply Rems.s (Rem.s (Rem.s (Rem.s Rem.z))) | apply Rems.s (Rem.s (Rem.s (Rem.s (Rem.s Rem.z)))) | apply Rems.s (Rem.s (Rem.s (Rem.s (Rem.s (Rem.s Rem.z))))) | apply Rems.s (Rem.s (Rem.s (Rem.s (Rem.s (Rem.s (Rem.s Rem.z)))))) | apply Rems.s (Rem.s (Rem.s (Rem.s (Rem.s (Rem.s (Rem.s (Rem.s Rem.z))))))) | apply Rems.s (Rem.s (Rem.s (Rem.s (Rem.s (Rem.s (Rem.s (Rem.s (Rem.s Rem.z)))))))) | apply Rems.s (Rem.s (Rem.s (Rem.s (Rem.s (Rem.s (Rem.s (Rem.s (Rem.s (Rem.s Rem.z)))))))))))
              · first
                | (exfalso; omega)
                |
                  refine R_nil ?_
                  refine K_tn ?_
                  refine K_cond_f rfl ?_
                  refine K_skip ?_
                  refine K_bn ?_
                  refine K_tn ?_
                  refine R_region ?_
                  first | refine r_addN rfl rfl rfl rfl (i64K (by omega) (by omega)) ?_ | refine r_add rfl rfl rfl rfl (i64K (by omega) (by omega)) ?_
                  refine r_move rfl rfl rfl ?_
                  refine R_nil ?_
                  refine K_tn ?_
                  first | rw [mmF_1 (ms := es) (ls := ls) (i := k) (by omega), fm_put lk_len _ (by rw [mvL_len (by omega)]; omega), mvL_set (by omega)] | rw [mvL_keep (ms := es) (f := mmF es ls) (k := k) (by omega) (mmF_0 (ms := es) (ls := ls) (i := k) (by omega))]
                  exact K_again (k + 1) (by omega) (by omega) (by repeat (first | exact trivial | refine ⟨rfl, ?_⟩)) (by repeat (first | exact .z | apply Rems.s Rem.z | apply Rems.s (Rem.s Rem.z) | apply Rems.s (Rem.s (Rem.s Rem.z)) | apply Rems.s (Rem.s (Rem.s (Rem.s Rem.z))) | apply Rems.s (Rem.s (Rem.s (Rem.s (Rem.s Rem.z)))) | apply Rems.s (Rem.s (Rem.s (Rem.s (Rem.s (Rem.s Rem.z))))) | apply Rems.s (Rem.s (Rem.s (Rem.s (Rem.s (Rem.s (Rem.s Rem.z)))))) | apply Rems.s (Rem.s (Rem.s (Rem.s (Rem.s (Rem.s (Rem.s (Rem.s Rem.z))))))) | apply Rems.s (Rem.s (Rem.s (Rem.s (Rem.s (Rem.s (Rem.s (Rem.s (Rem.s Rem.z)))))))) | apply Rems.s (Rem.s (Rem.s (Rem.s (Rem.s (Rem.s (Rem.s (Rem.s (Rem.s (Rem.s Rem.z)))))))))))
      · first
        | (exfalso; omega)
        |
          refine R_nil ?_
          refine K_tn ?_
          refine K_seq ?_
          refine K_cond_f rfl ?_
          refine K_exit ?_
          refine K_te ?_
          refine K_te ?_
          refine K_be ?_
          refine K_tn ?_
          refine K_seq ?_
          refine R_region ?_
          have hkn : k = es.length := by omega
          subst hkn
          rw [mvL_full rfl]
          refine r_move rfl rfl rfl ?_
          refine r_assign rfl rfl rfl ?_
          refine r_assign rfl rfl rfl ?_
          refine R_nil ?_
          refine K_tn ?_
          refine K_ret ?_
          refine K_done (H' := [(b19, .cells (fm lk (mapG (mmF es ls) es.length) ++ junk19).toArray u19 (0, 0))]) rfl rfl (.s (.tmp rfl) (.s (.tmp rfl) .z)) (by repeat (first | exact .z | apply Rems.s Rem.z | apply Rems.s (Rem.s Rem.z) | apply Rems.s (Rem.s (Rem.s Rem.z)) | apply Rems.s (Rem.s (Rem.s (Rem.s Rem.z))) | apply Rems.s (Rem.s (Rem.s (Rem.s (Rem.s Rem.z)))) | apply Rems.s (Rem.s (Rem.s (Rem.s (Rem.s (Rem.s Rem.z))))) | apply Rems.s (Rem.s (Rem.s (Rem.s (Rem.s (Rem.s (Rem.s Rem.z)))))) | apply Rems.s (Rem.s (Rem.s (Rem.s (Rem.s (Rem.s (Rem.s (Rem.s Rem.z))))))) | apply Rems.s (Rem.s (Rem.s (Rem.s (Rem.s (Rem.s (Rem.s (Rem.s (Rem.s Rem.z)))))))) | apply Rems.s (Rem.s (Rem.s (Rem.s (Rem.s (Rem.s (Rem.s (Rem.s (Rem.s (Rem.s Rem.z))))))))))) ?_
          exact ⟨b19, cap19, junk19, u19, by rw [hok, mapG_len], by rw [mapG_len]; exact hj19, by rw [mapG_len]; exact hc19, rfl⟩

set_option maxRecDepth 20000 in
theorem spec_MM_no (b off len cap : Nat) (l : List Value) (u : TypeId) (fr : Nat × Nat) (es : List Lk) (he : es.length = len) (hl : ∀ i, i < len → takeAt l (off + i * 3) 3 = some (lk (es.getD i lz))) (b2 off2 len2 cap2 : Nat) (l2 : List Value) (u2 : TypeId) (fr2 : Nat × Nat) (ls : List Lk) (he2 : ls.length = len2) (hl2 : ∀ i, i < len2 → takeAt l2 (off2 + i * 3) 3 = some (lk (ls.getD i lz))) (hb : len ≤ 1048576) (hb2 : len2 ≤ 1048576) (hno : lkCode es ls ≠ 0) : Go.Sl.Spec Try.prog 45 [.slice (some ⟨b, off, none⟩) len cap, .slice (some ⟨b2, off2, none⟩) len2 cap2] [(b, .cells l.toArray u fr), (b2, .cells l2.toArray u2 fr2)] [] (RowGC lk [] 3 (lkCode es ls)) := by
  refine spec_of Try.func45 rfl Try.ntmps45 rfl (fun w0 => ?_)
  subst he
  subst he2
  refine K_seq ?_
  refine R_region ?_
  refine r_assign rfl rfl rfl ?_
  refine r_assign rfl rfl rfl ?_
  refine R_nil ?_
  refine K_tn ?_
  refine K_seq ?_
  refine R_region ?_
  refine r_buildSlice sl_46 sz_43 zr_43 rfl rfl rfl rfl rfl (by first | rfl) (fun b13 => ?_)
  refine r_assign rfl rfl rfl ?_
  refine R_nil ?_
  refine K_tn ?_
  refine K_seq ?_
  refine K_seq ?_
  refine R_region ?_
  refine r_move rfl rfl rfl ?_
  refine r_move rfl rfl rfl ?_
  refine r_callV cb_90 rfl rfl rfl rfl rfl (l03Looks _ _ _ _ _ _ _ es rfl hl _ _ _ _ _ _ _ ls rfl hl2 (by omega) (by omega)) (by repeat (first | exact .z | refine .s (.h .z) ?_ | refine .s (.h (.s .z)) ?_ | refine .s (.h (.s (.s .z))) ?_ | refine .s (.h (.s (.s (.s .z)))) ?_ | refine .s (.h (.s (.s (.s (.s .z))))) ?_ | refine .s (.h (.s (.s (.s (.s (.s .z)))))) ?_ | refine .s (.h (.s (.s (.s (.s (.s (.s .z))))))) ?_ | refine .s (.h (.s (.s (.s (.s (.s (.s (.s .z)))))))) ?_ | refine .s (.h (.s (.s (.s (.s (.s (.s (.s (.s .z))))))))) ?_ | refine .s (.x .z) ?_ | refine .s (.x (.s .z)) ?_ | refine .s (.x (.s (.s .z))) ?_ | refine .s (.x (.s (.s (.s .z)))) ?_ | refine .s (.x (.s (.s (.s (.s .z))))) ?_ | refine .s (.x (.s (.s (.s (.s (.s .z)))))) ?_ | refine .s (.x (.s (.s (.s (.s (.s (.s .z))))))) ?_)) ?_
  refine r_assign rfl rfl rfl ?_
  refine R_nil ?_
  refine K_tn ?_
  refine K_seq ?_
  refine R_region ?_
  refine r_move rfl rfl rfl ?_
  refine s_neq rfl rfl rfl rfl (fun h18 => ?_) (fun h18 => ?_)
  · first
    | (exfalso; omega)
    |
      refine R_nil ?_
      refine K_tn ?_
      refine K_cond_t rfl ?_
      refine K_seq ?_
      refine R_region ?_
      refine r_move rfl rfl rfl ?_
      refine r_move rfl rfl rfl ?_
      refine r_assign rfl rfl rfl ?_
      refine r_assign rfl rfl rfl ?_
      refine R_nil ?_
      refine K_tn ?_
      refine K_ret ?_
      refine K_tr ?_
      refine K_done (H' := [(b13, .cells [].toArray 43 (0, 0))]) rfl rfl (.s (.tmp rfl) (.s (.tmp rfl) .z)) (by repeat (first | exact .z | apply Rems.s Rem.z | apply Rems.s (Rem.s Rem.z) | apply Rems.s (Rem.s (Rem.s Rem.z)) | apply Rems.s (Rem.s (Rem.s (Rem.s Rem.z))) | apply Rems.s (Rem.s (Rem.s (Rem.s (Rem.s Rem.z)))) | apply Rems.s (Rem.s (Rem.s (Rem.s (Rem.s (Rem.s Rem.z))))) | apply Rems.s (Rem.s (Rem.s (Rem.s (Rem.s (Rem.s (Rem.s Rem.z)))))) | apply Rems.s (Rem.s (Rem.s (Rem.s (Rem.s (Rem.s (Rem.s (Rem.s Rem.z))))))) | apply Rems.s (Rem.s (Rem.s (Rem.s (Rem.s (Rem.s (Rem.s (Rem.s (Rem.s Rem.z)))))))) | apply Rems.s (Rem.s (Rem.s (Rem.s (Rem.s (Rem.s (Rem.s (Rem.s (Rem.s (Rem.s Rem.z))))))))))) ?_
      exact ⟨b13, 0, [], _, rfl, rfl, Nat.le_refl _, rfl⟩
  · first
    | (exfalso; omega)
    |
      refine R_nil ?_
      refine K_tn ?_
      refine K_cond_f rfl ?_
      refine K_skip ?_
      refine K_tn ?_
      refine K_seq ?_
      refine K_seq ?_
      refine R_region ?_
      refine r_assign rfl rfl rfl ?_
      refine R_nil ?_
      refine K_tn ?_
      refine K_block ?_
      refine K_loop2 (fun (k : Nat) (p : RowP) => k ≤ es.length ∧ k * 3 + p.junk.length = p.cap * 3 ∧ k ≤ p.cap) (fun k p => [(0, .slice (some ⟨b, off, none⟩) es.length cap), (1, .slice (some ⟨b2, off2, none⟩) ls.length cap2), (6, .slice (some ⟨p.b, 0, none⟩) k p.cap), (8, .int .i64 (k : Int))]) (fun k p => [(p.b, .cells (fm lk (mapG (mmF es ls) k) ++ p.junk).toArray p.u (0, 0))]) (fun k _ => es.length - k) 0 ⟨b13, 0, [], 43⟩ (by exact ⟨Nat.zero_le _, rfl, Nat.le_refl _⟩) (by repeat (first | exact trivial | refine ⟨rfl, ?_⟩)) (by repeat (first | exact .z | apply Rems.s Rem.z | apply Rems.s (Rem.s Rem.z) | apply Rems.s (Rem.s (Rem.s Rem.z)) | apply Rems.s (Rem.s (Rem.s (Rem.s Rem.z))) | apply Rems.s (Rem.s (Rem.s (Rem.s (Rem.s Rem.z)))) | apply Rems.s (Rem.s (Rem.s (Rem.s (Rem.s (Rem.s Rem.z))))) | apply Rems.s (Rem.s (Rem.s (Rem.s (Rem.s (Rem.s (Rem.s Rem.z)))))) | apply Rems.s (Rem.s (Rem.s (Rem.s (Rem.s (Rem.s (Rem.s (Rem.s Rem.z))))))) | apply Rems.s (Rem.s (Rem.s (Rem.s (Rem.s (Rem.s (Rem.s (Rem.s (Rem.s Rem.z)))))))) | apply Rems.s (Rem.s (Rem.s (Rem.s (Rem.s (Rem.s (Rem.s (Rem.s (Rem.s (Rem.s Rem.z))))))))))) (fun k p hq0 => ?_)
      obtain ⟨hk, hq, hqc⟩ := hq0
      refine K_seq ?_
      refine K_seq ?_
      refine R_region ?_
      refine r_move rfl rfl rfl ?_
      refine r_move rfl rfl rfl ?_
      refine r_lenS sl_46 rfl rfl rfl ?_
      refine s_lss rfl rfl rfl rfl (fun h24 => ?_) (fun h24 => ?_)
      · first
        | (exfalso; omega)
        |
          refine R_nil ?_
          refine K_tn ?_
          refine K_cond_t rfl ?_
          refine K_skip ?_
          refine K_tn ?_
          refine K_seq ?_
          refine K_block ?_
          refine K_seq ?_
          refine R_region ?_
          refine r_buildSlice sl_46 sz_43 zr_43 rfl rfl rfl rfl rfl (by first | rfl) (fun b27 => ?_)
          refine r_assign rfl rfl rfl ?_
          refine R_nil ?_
          refine K_tn ?_
          refine K_seq ?_
          refine K_seq ?_
          refine R_region ?_
          refine r_assign rfl rfl rfl ?_
          refine R_nil ?_
          refine K_tn ?_
          refine K_block ?_
          refine K_loop2 (fun (j : Nat) (q : RowP) => j ≤ ls.length ∧ (ownL es ls k j).length * 3 + q.junk.length = q.cap * 3 ∧ (ownL es ls k j).length ≤ q.cap) (fun j q => [(0, .slice (some ⟨b, off, none⟩) es.length cap), (1, .slice (some ⟨b2, off2, none⟩) ls.length cap2), (6, .slice (some ⟨p.b, 0, none⟩) k p.cap), (8, .int .i64 (k : Int)), (9, .slice (some ⟨q.b, 0, none⟩) (ownL es ls k j).length q.cap), (10, .int .i64 (j : Int))]) (fun j q => [(q.b, .cells (fm lk (ownL es ls k j) ++ q.junk).toArray q.u (0, 0)), (p.b, .cells (fm lk (mapG (mmF es ls) k) ++ p.junk).toArray p.u (0, 0))]) (fun j _ => ls.length - j) 0 ⟨b27, 0, [], 43⟩ (by exact ⟨Nat.zero_le _, rfl, Nat.le_refl _⟩) (by repeat (first | exact trivial | refine ⟨rfl, ?_⟩)) (by repeat (first | exact .z | apply Rems.s Rem.z | apply Rems.s (Rem.s Rem.z) | apply Rems.s (Rem.s (Rem.s Rem.z)) | apply Rems.s (Rem.s (Rem.s (Rem.s Rem.z))) | apply Rems.s (Rem.s (Rem.s (Rem.s (Rem.s Rem.z)))) | apply Rems.s (Rem.s (Rem.s (Rem.s (Rem.s (Rem.s Rem.z))))) | apply Rems.s (Rem.s (Rem.s (Rem.s (Rem.s (Rem.s (Rem.s Rem.z)))))) | apply Rems.s (Rem.s (Rem.s (Rem.s (Rem.s (Rem.s (Rem.s (Rem.s Rem.z))))))) | apply Rems.s (Rem.s (Rem.s (Rem.s (Rem.s (Rem.s (Rem.s (Rem.s (Rem.s Rem.z)))))))) | apply Rems.s (Rem.s (Rem.s (Rem.s (Rem.s (Rem.s (Rem.s (Rem.s (Rem.s (Rem.s Rem.z))))))))))) (fun j q hq1 => ?_)
          obtain ⟨hj, hi1, hi2⟩ := hq1
          have hle0 := ownL_le (ms := es) (ls := ls) (i := k) j
          refine K_seq ?_
          refine K_seq ?_
          refine R_region ?_
          refine r_move rfl rfl rfl ?_
          refine r_move rfl rfl rfl ?_
          refine r_lenS sl_46 rfl rfl rfl ?_
          refine s_lss rfl rfl rfl rfl (fun h31 => ?_) (fun h31 => ?_)
          · first
            | (exfalso; omega)
            |
              refine R_nil ?_
              refine K_tn ?_
              refine K_cond_t rfl ?_
              refine K_skip ?_
              refine K_tn ?_
              refine K_seq ?_
              refine K_block ?_
              refine K_seq ?_
              refine R_region ?_
              refine r_move rfl rfl rfl ?_
              refine r_move rfl rfl rfl ?_
              refine r_move rfl rfl rfl ?_
              refine r_indexS sl_46 sz_43 rfl rfl rfl rfl (by omega) ?_
              refine r_callV cb_91 rfl rfl rfl rfl rfl (absurd rfl rfl) (by repeat (first | exact .z | refine .s (.h .z) ?_ | refine .s (.h (.s .z)) ?_ | refine .s (.h (.s (.s .z))) ?_ | refine .s (.h (.s (.s (.s .z)))) ?_ | refine .s (.h (.s (.s (.s (.s .z))))) ?_ | refine .s (.h (.s (.s (.s (.s (.s .z)))))) ?_ | refine .s (.h (.s (.s (.s (.s (.s (.s .z))))))) ?_ | refine .s (.h (.s (.s (.s (.s (.s (.s (.s .z)))))))) ?_ | refine .s (.h (.s (.s (.s (.s (.s (.s (.s (.s .z))))))))) ?_ | refine .s (.x .z) ?_ | refine .s (.x (.s .z)) ?_ | refine .s (.x (.s (.s .z))) ?_ | refine .s (.x (.s (.s (.s .z)))) ?_ | refine .s (.x (.s (.s (.s (.s .z))))) ?_ | refine .s (.x (.s (.s (.s (.s (.s .z)))))) ?_ | refine .s (.x (.s (.s (.s (.s (.s (.s .z))))))) ?_)) ?_
              refine r_move rfl rfl rfl ?_
              refine r_extract rfl rfl rfl rfl ?_
              refine r_extract rfl rfl rfl rfl ?_
              refine r_assign rfl rfl rfl ?_
              refine r_assign rfl rfl rfl ?_
              refine R_nil ?_
              refine K_tn ?_
              refine K_seq ?_
              refine R_region ?_
              refine r_move rfl rfl rfl ?_
              refine r_move rfl rfl rfl ?_
              refine s_eql rfl rfl rfl rfl (fun h44 => ?_) (fun h44 => ?_)
              · first
                | (exfalso; omega)
                |
                  refine R_nil ?_
                  refine K_tn ?_
                  refine K_cond_t rfl ?_
                  refine R_region ?_
                  refine r_move rfl rfl rfl ?_
                  refine r_move rfl rfl rfl ?_
                  refine r_move rfl rfl rfl ?_
                  refine r_indexS sl_46 sz_43 rfl rfl rfl rfl (by omega) ?_
                  refine r_loadA ag_43 sz_43 rfl rfl rfl (by first | exact .h .z | exact .h (.s .z) | exact .h (.s (.s .z)) | exact .h (.s (.s (.s .z))) | exact .h (.s (.s (.s (.s .z)))) | exact .h (.s (.s (.s (.s (.s .z))))) | exact .h (.s (.s (.s (.s (.s (.s .z)))))) | exact .h (.s (.s (.s (.s (.s (.s (.s .z))))))) | exact .h (.s (.s (.s (.s (.s (.s (.s (.s .z)))))))) | exact .x .z | exact .x (.s .z) | exact .x (.s (.s .z)) | exact .x (.s (.s (.s .z))) | exact .x (.s (.s (.s (.s .z)))) | exact .x (.s (.s (.s (.s (.s .z))))) | exact .x (.s (.s (.s (.s (.s (.s .z))))))) (by first | rfl | exact hl _ (by omega) | exact hl2 _ (by omega)) ?_
                  refine r_buildSlice sl_46 sz_43 zr_43 rfl rfl rfl rfl rfl (by first | rfl) (fun b50 => ?_)
                  refine r_appendG lk_len lk_one (p := ls.getD j lz) sl_46 sl_46 sz_43 zr_43 rfl by_43 rfl rfl rfl rfl rfl (by first | exact .h .z | exact .h (.s .z) | exact .h (.s (.s .z)) | exact .h (.s (.s (.s .z))) | exact .h (.s (.s (.s (.s .z)))) | exact .h (.s (.s (.s (.s (.s .z))))) | exact .h (.s (.s (.s (.s (.s (.s .z)))))) | exact .h (.s (.s (.s (.s (.s (.s (.s .z))))))) | exact .h (.s (.s (.s (.s (.s (.s (.s (.s .z)))))))) | exact .x .z | exact .x (.s .z) | exact .x (.s (.s .z)) | exact .x (.s (.s (.s .z))) | exact .x (.s (.s (.s (.s .z)))) | exact .x (.s (.s (.s (.s (.s .z))))) | exact .x (.s (.s (.s (.s (.s (.s .z))))))) (by first | exact .z | exact (.s .z) | exact (.s (.s .z)) | exact (.s (.s (.s .z))) | exact (.s (.s (.s (.s .z)))) | exact (.s (.s (.s (.s (.s .z))))) | exact (.s (.s (.s (.s (.s (.s .z)))))) | exact (.s (.s (.s (.s (.s (.s (.s .z))))))) | exact (.s (.s (.s (.s (.s (.s (.s (.s .z)))))))) | exact (.s (.s (.s (.s (.s (.s (.s (.s (.s .z)))))))))) (by first | rfl | exact mapG_len _ _) (by omega) (by omega) (fun b51 cap51 junk51 u51 hj51 hc51 => ?_)
                  refine r_assign rfl rfl rfl ?_
                  refine R_nil ?_
                  refine K_bn ?_
                  refine K_tn ?_
                  refine R_region ?_
                  refine r_move rfl rfl rfl ?_
                  first | refine r_addN rfl rfl rfl rfl (i64K (by omega) (by omega)) ?_ | refine r_add rfl rfl rfl rfl (i64K (by omega) (by omega)) ?_
                  refine r_assign rfl rfl rfl ?_
                  refine R_nil ?_
                  refine K_tn ?_
                  first | (have hE := ownL_t (ms := es) (ls := ls) (i := k) (j := j) (by omega); have hEl : (ownL es ls k j).length + 1 = (ownL es ls k (j + 1)).length := (by rw [← hE]; simp); rw [hE, hEl]; rw [hEl] at hj51 hc51) | (have hE := ownL_f (ms := es) (ls := ls) (i := k) (j := j) (by omega); have hEl := congrArg List.length hE; rw [hE])
                  first | (exact K_again2 (pre := (fun (j : Nat) (q : RowP) => j ≤ ls.length ∧ (ownL es ls k j).length * 3 + q.junk.length = q.cap * 3 ∧ (ownL es ls k j).length ≤ q.cap)) (Ei := (fun j q => [(0, .slice (some ⟨b, off, none⟩) es.length cap), (1, .slice (some ⟨b2, off2, none⟩) ls.length cap2), (6, .slice (some ⟨p.b, 0, none⟩) k p.cap), (8, .int .i64 (k : Int)), (9, .slice (some ⟨q.b, 0, none⟩) (ownL es ls k j).length q.cap), (10, .int .i64 (j : Int))])) (Hi := (fun j q => [(q.b, .cells (fm lk (ownL es ls k j) ++ q.junk).toArray q.u (0, 0)), (p.b, .cells (fm lk (mapG (mmF es ls) k) ++ p.junk).toArray p.u (0, 0))])) (μ := (fun j _ => ls.length - j)) (j + 1) (RowP.mk b51 cap51 junk51 u51) (by refine ⟨?_, ?_, ?_⟩ <;> (try simp only) <;> omega) (by omega) (by repeat (first | exact trivial | refine ⟨rfl, ?_⟩)) (by repeat (first | exact .z | apply Rems.s Rem.z | apply Rems.s (Rem.s Rem.z) | apply Rems.s (Rem.s (Rem.s Rem.z)) | apply Rems.s (Rem.s (Rem.s (Rem.s Rem.z))) | apply Rems.s (Rem.s (Rem.s (Rem.s (Rem.s Rem.z)))) | apply Rems.s (Rem.s (Rem.s (Rem.s (Rem.s (Rem.s Rem.z))))) | apply Rems.s (Rem.s (Rem.s (Rem.s (Rem.s (Rem.s (Rem.s Rem.z)))))) | apply Rems.s (Rem.s (Rem.s (Rem.s (Rem.s (Rem.s (Rem.s (Rem.s Rem.z))))))) | apply Rems.s (Rem.s (Rem.s (Rem.s (Rem.s (Rem.s (Rem.s (Rem.s (Rem.s Rem.z)))))))) | apply Rems.s (Rem.s (Rem.s (Rem.s (Rem.s (Rem.s (Rem.s (Rem.s (Rem.s (Rem.s Rem.z)))))))))))) | (exact K_again2 (pre := (fun (j : Nat) (q : RowP) => j ≤ ls.length ∧ (ownL es ls k j).length * 3 + q.junk.length = q.cap * 3 ∧ (ownL es ls k j).length ≤ q.cap)) (Ei := (fun j q => [(0, .slice (some ⟨b, off, none⟩) es.length cap), (1, .slice (some ⟨b2, off2, none⟩) ls.length cap2), (6, .slice (some ⟨p.b, 0, none⟩) k p.cap), (8, .int .i64 (k : Int)), (9, .slice (some ⟨q.b, 0, none⟩) (ownL es ls k j).length q.cap), (10, .int .i64 (j : Int))])) (Hi := (fun j q => [(q.b, .cells (fm lk (ownL es ls k j) ++ q.junk).toArray q.u (0, 0)), (p.b, .cells (fm lk (mapG (mmF es ls) k) ++ p.junk).toArray p.u (0, 0))])) (μ := (fun j _ => ls.length - j)) (j + 1) q (by refine ⟨?_, ?_, ?_⟩ <;> (try simp only) <;> omega) (by omega) (by repeat (first | exact trivial | refine ⟨rfl, ?_⟩)) (by repeat (first | exact .z | apply Rems.s Rem.z | apply Rems.s (Rem.s Rem.z) | apply Rems.s (Rem.s (Rem.s Rem.z)) | apply Rems.s (Rem.s (Rem.s (Rem.s Rem.z))) | apply Rems.s (Rem.s (Rem.s (Rem.s (Rem.s Rem.z)))) | apply Rems.s (Rem.s (Rem.s (Rem.s (Rem.s (Rem.s Rem.z))))) | apply Rems.s (Rem.s (Rem.s (Rem.s (Rem.s (Rem.s (Rem.s Rem.z)))))) | apply Rems.s (Rem.s (Rem.s (Rem.s (Rem.s (Rem.s (Rem.s (Rem.s Rem.z))))))) | apply Rems.s (Rem.s (Rem.s (Rem.s (Rem.s (Rem.s (Rem.s (Rem.s (Rem.s Rem.z)))))))) | apply Rems.s (Rem.s (Rem.s (Rem.s (Rem.s (Rem.s (Rem.s (Rem.s (Rem.s (Rem.s Rem.z))))))))))))
              · first
                | (exfalso; omega)
                |
                  refine R_nil ?_
                  refine K_tn ?_
                  refine K_cond_f rfl ?_
                  refine K_skip ?_
                  refine K_bn ?_
                  refine K_tn ?_
                  refine R_region ?_
                  refine r_move rfl rfl rfl ?_
                  first | refine r_addN rfl rfl rfl rfl (i64K (by omega) (by omega)) ?_ | refine r_add rfl rfl rfl rfl (i64K (by omega) (by omega)) ?_
                  refine r_assign rfl rfl rfl ?_
                  refine R_nil ?_
                  refine K_tn ?_
                  first | (have hE := ownL_t (ms := es) (ls := ls) (i := k) (j := j) (by omega); have hEl : (ownL es ls k j).length + 1 = (ownL es ls k (j + 1)).length := (by rw [← hE]; simp); rw [hE, hEl]; rw [hEl] at hj51 hc51) | (have hE := ownL_f (ms := es) (ls := ls) (i := k) (j := j) (by omega); have hEl := congrArg List.length hE; rw [hE])
                  first | (exact K_again2 (pre := (fun (j : Nat) (q : RowP) => j ≤ ls.length ∧ (ownL es ls k j).length * 3 + q.junk.length = q.cap * 3 ∧ (ownL es ls k j).length ≤ q.cap)) (Ei := (fun j q => [(0, .slice (some ⟨b, off, none⟩) es.length cap), (1, .slice (some ⟨b2, off2, none⟩) ls.length cap2), (6, .slice (some ⟨p.b, 0, none⟩) k p.cap), (8, .int .i64 (k : Int)), (9, .slice (some ⟨q.b, 0, none⟩) (ownL es ls k j).length q.cap), (10, .int .i64 (j : Int))])) (Hi := (fun j q => [(q.b, .cells (fm lk (ownL es ls k j) ++ q.junk).toArray q.u (0, 0)), (p.b, .cells (fm lk (mapG (mmF es ls) k) ++ p.junk).toArray p.u (0, 0))])) (μ := (fun j _ => ls.length - j)) (j + 1) (RowP.mk b51 cap51 junk51 u51) (by refine ⟨?_, ?_, ?_⟩ <;> (try simp only) <;> omega) (by omega) (by repeat (first | exact trivial | refine ⟨rfl, ?_⟩)) (by repeat (first | exact .z | apply Rems.s Rem.z | apply Rems.s (Rem.s Rem.z) | apply Rems.s (Rem.s (Rem.s Rem.z)) | apply Rems.s (Rem.s (Rem.s (Rem.s Rem.z))) | apply Rems.s (Rem.s (Rem.s (Rem.s (Rem.s Rem.z)))) | apply Rems.s (Rem.s (Rem.s (Rem.s (Rem.s (Rem.s Rem.z))))) | apply Rems.s (Rem.s (Rem.s (Rem.s (Rem.s (Rem.s (Rem.s Rem.z)))))) | apply Rems.s (Rem.s (Rem.s (Rem.s (Rem.s (Rem.s (Rem.s (Rem.s Rem.z))))))) | apply Rems.s (Rem.s (Rem.s (Rem.s (Rem.s (Rem.s (Rem.s (Rem.s (Rem.s Rem.z)))))))) | apply Rems.s (Rem.s (Rem.s (Rem.s (Rem.s (Rem.s (Rem.s (Rem.s (Rem.s (Rem.s Rem.z)))))))))))) | (exact K_again2 (pre := (fun (j : Nat) (q : RowP) => j ≤ ls.length ∧ (ownL es ls k j).length * 3 + q.junk.length = q.cap * 3 ∧ (ownL es ls k j).length ≤ q.cap)) (Ei := (fun j q => [(0, .slice (some ⟨b, off, none⟩) es.length cap), (1, .slice (some ⟨b2, off2, none⟩) ls.length cap2), (6, .slice (some ⟨p.b, 0, none⟩) k p.cap), (8, .int .i64 (k : Int)), (9, .slice (some ⟨q.b, 0, none⟩) (ownL es ls k j).length q.cap), (10, .int .i64 (j : Int))])) (Hi := (fun j q => [(q.b, .cells (fm lk (ownL es ls k j) ++ q.junk).toArray q.u (0, 0)), (p.b, .cells (fm lk (mapG (mmF es ls) k) ++ p.junk).toArray p.u (0, 0))])) (μ := (fun j _ => ls.length - j)) (j + 1) q (by refine ⟨?_, ?_, ?_⟩ <;> (try simp only) <;> omega) (by omega) (by repeat (first | exact trivial | refine ⟨rfl, ?_⟩)) (by repeat (first | exact .z | apply Rems.s Rem.z | apply Rems.s (Rem.s Rem.z) | apply Rems.s (Rem.s (Rem.s Rem.z)) | apply Rems.s (Rem.s (Rem.s (Rem.s Rem.z))) | apply Rems.s (Rem.s (Rem.s (Rem.s (Rem.s Rem.z)))) | apply Rems.s (Rem.s (Rem.s (Rem.s (Rem.s (Rem.s Rem.z))))) | apply Rems.s (Rem.s (Rem.s (Rem.s (Rem.s (Rem.s (Rem.s Rem.z)))))) | apply Rems.s (Rem.s (Rem.s (Rem.s (Rem.s (Rem.s (Rem.s (Rem.s Rem.z))))))) | apply Rems.s (Rem.s (Rem.s (Rem.s (Rem.s (Rem.s (Rem.s (Rem.s (Rem.s Rem.z)))))))) | apply Rems.s (Rem.s (Rem.s (Rem.s (Rem.s (Rem.s (Rem.s (Rem.s (Rem.s (Rem.s Rem.z))))))))))))
          · first
            | (exfalso; omega)
            |
              refine R_nil ?_
              refine K_tn ?_
              refine K_cond_f rfl ?_
              refine K_exit ?_
              refine K_te ?_
              refine K_te ?_
              refine K_be ?_
              refine K_tn ?_
              refine K_seq ?_
              refine R_region ?_
              refine r_move rfl rfl rfl ?_
              refine r_lenS sl_46 rfl rfl rfl ?_
              refine s_eql rfl rfl rfl rfl (fun h54 => ?_) (fun h54 => ?_)
              · first
                | (exfalso; omega)
                |
                  refine R_nil ?_
                  refine K_tn ?_
                  refine K_cond_t rfl ?_
                  refine R_region ?_
                  refine r_move rfl rfl rfl ?_
                  refine r_move rfl rfl rfl ?_
                  refine r_move rfl rfl rfl ?_
                  refine r_indexS sl_46 sz_43 rfl rfl rfl rfl (by omega) ?_
                  refine r_loadA ag_43 sz_43 rfl rfl rfl (by first | exact .h .z | exact .h (.s .z) | exact .h (.s (.s .z)) | exact .h (.s (.s (.s .z))) | exact .h (.s (.s (.s (.s .z)))) | exact .h (.s (.s (.s (.s (.s .z))))) | exact .h (.s (.s (.s (.s (.s (.s .z)))))) | exact .h (.s (.s (.s (.s (.s (.s (.s .z))))))) | exact .h (.s (.s (.s (.s (.s (.s (.s (.s .z)))))))) | exact .x .z | exact .x (.s .z) | exact .x (.s (.s .z)) | exact .x (.s (.s (.s .z))) | exact .x (.s (.s (.s (.s .z)))) | exact .x (.s (.s (.s (.s (.s .z))))) | exact .x (.s (.s (.s (.s (.s (.s .z))))))) (by first | rfl | exact hl _ (by omega) | exact hl2 _ (by omega)) ?_
                  refine r_buildSlice sl_46 sz_43 zr_43 rfl rfl rfl rfl rfl (by first | rfl) (fun b60 => ?_)
                  refine r_appendG lk_len lk_one (p := es.getD k lz) sl_46 sl_46 sz_43 zr_43 rfl by_43 rfl rfl rfl rfl rfl (by first | exact .h .z | exact .h (.s .z) | exact .h (.s (.s .z)) | exact .h (.s (.s (.s .z))) | exact .h (.s (.s (.s (.s .z)))) | exact .h (.s (.s (.s (.s (.s .z))))) | exact .h (.s (.s (.s (.s (.s (.s .z)))))) | exact .h (.s (.s (.s (.s (.s (.s (.s .z))))))) | exact .h (.s (.s (.s (.s (.s (.s (.s (.s .z)))))))) | exact .x .z | exact .x (.s .z) | exact .x (.s (.s .z)) | exact .x (.s (.s (.s .z))) | exact .x (.s (.s (.s (.s .z)))) | exact .x (.s (.s (.s (.s (.s .z))))) | exact .x (.s (.s (.s (.s (.s (.s .z))))))) (by first | exact .z | exact (.s .z) | exact (.s (.s .z)) | exact (.s (.s (.s .z))) | exact (.s (.s (.s (.s .z)))) | exact (.s (.s (.s (.s (.s .z))))) | exact (.s (.s (.s (.s (.s (.s .z)))))) | exact (.s (.s (.s (.s (.s (.s (.s .z))))))) | exact (.s (.s (.s (.s (.s (.s (.s (.s .z)))))))) | exact (.s (.s (.s (.s (.s (.s (.s (.s (.s .z)))))))))) (by first | rfl | exact mapG_len _ _) (by omega) (by omega) (fun b61 cap61 junk61 u61 hj61 hc61 => ?_)
                  refine r_assign rfl rfl rfl ?_
                  refine R_nil ?_
                  refine K_bn ?_
                  refine K_tn ?_
                  refine R_region ?_
                  refine r_move rfl rfl rfl ?_
                  first | refine r_addN rfl rfl rfl rfl (i64K (by omega) (by omega)) ?_ | refine r_add rfl rfl rfl rfl (i64K (by omega) (by omega)) ?_
                  refine r_assign rfl rfl rfl ?_
                  refine R_nil ?_
                  refine K_tn ?_
                  first | rw [mmF_0 (ms := es) (ls := ls) (i := k) (by omega), mapG_succ] | rw [mmF_1 (ms := es) (ls := ls) (i := k) (by omega), mapG_succ]
                  first | (exact K_again2 (pre := (fun (k : Nat) (p : RowP) => k ≤ es.length ∧ k * 3 + p.junk.length = p.cap * 3 ∧ k ≤ p.cap)) (Ei := (fun k p => [(0, .slice (some ⟨b, off, none⟩) es.length cap), (1, .slice (some ⟨b2, off2, none⟩) ls.length cap2), (6, .slice (some ⟨p.b, 0, none⟩) k p.cap), (8, .int .i64 (k : Int))])) (Hi := (fun k p => [(p.b, .cells (fm lk (mapG (mmF es ls) k) ++ p.junk).toArray p.u (0, 0))])) (μ := (fun k _ => es.length - k)) (k + 1) (RowP.mk b61 cap61 junk61 u61) (by refine ⟨?_, ?_, ?_⟩ <;> (try simp only) <;> omega) (by omega) (by repeat (first | exact trivial | refine ⟨rfl, ?_⟩)) (by repeat (first | exact .z | apply Rems.s Rem.z | apply Rems.s (Rem.s Rem.z) | apply Rems.s (Rem.s (Rem.s Rem.z)) | apply Rems.s (Rem.s (Rem.s (Rem.s Rem.z))) | apply Rems.s (Rem.s (Rem.s (Rem.s (Rem.s Rem.z)))) | apply Rems.s (Rem.s (Rem.s (Rem.s (Rem.s (Rem.s Rem.z))))) | apply Rems.s (Rem.s (Rem.s (Rem.s (Rem.s (Rem.s (Rem.s Rem.z)))))) | apply Rems.s (Rem.s (Rem.s (Rem.s (Rem.s (Rem.s (Rem.s (Rem.s Rem.z))))))) | apply Rems.s (Rem.s (Rem.s (Rem.s (Rem.s (Rem.s (Rem.s (Rem.s (Rem.s Rem.z)))))))) | apply Rems.s (Rem.s (Rem.s (Rem.s (Rem.s (Rem.s (Rem.s (Rem.s (Rem.s (Rem.s Rem.z)))))))))))) | (exact K_again2 (pre := (fun (k : Nat) (p : RowP) => k ≤ es.length ∧ k * 3 + p.junk.length = p.cap * 3 ∧ k ≤ p.cap)) (Ei := (fun k p => [(0, .slice (some ⟨b, off, none⟩) es.length cap), (1, .slice (some ⟨b2, off2, none⟩) ls.length cap2), (6, .slice (some ⟨p.b, 0, none⟩) k p.cap), (8, .int .i64 (k : Int))])) (Hi := (fun k p => [(p.b, .cells (fm lk (mapG (mmF es ls) k) ++ p.junk).toArray p.u (0, 0))])) (μ := (fun k _ => es.length - k)) (k + 1) (RowP.mk b66 cap66 junk66 u66) (by refine ⟨?_, ?_, ?_⟩ <;> (try simp only) <;> omega) (by omega) (by repeat (first | exact trivial | refine ⟨rfl, ?_⟩)) (by repeat (first | exact .z | apply Rems.s Rem.z | apply Rems.s (Rem.s Rem.z) | apply Rems.s (Rem.s (Rem.s Rem.z)) | apply Rems.s (Rem.s (Rem.s (Rem.s Rem.z))) | apply Rems.s (Rem.s (Rem.s (Rem.s (Rem.s Rem.z)))) | apply Rems.s (Rem.s (Rem.s (Rem.s (Rem.s (Rem.s Rem.z))))) | apply Rems.s (Rem.s (Rem.s (Rem.s (Rem.s (Rem.s (Rem.s Rem.z)))))) | apply Rems.s (Rem.s (Rem.s (Rem.s (Rem.s (Rem.s (Rem.s (Rem.s Rem.z))))))) | apply Rems.s (Rem.s (Rem.s (Rem.s (Rem.s (Rem.s (Rem.s (Rem.s (Rem.s Rem.z)))))))) | apply Rems.s (Rem.s (Rem.s (Rem.s (Rem.s (Rem.s (Rem.s (Rem.s (Rem.s (Rem.s Rem.z))))))))))))
              · first
                | (exfalso; omega)
                |
                  refine R_nil ?_
                  refine K_tn ?_
                  refine K_cond_f rfl ?_
                  refine R_region ?_
                  refine r_move rfl rfl rfl ?_
                  refine r_move rfl rfl rfl ?_
                  refine r_callV cb_87 rfl rfl rfl rfl rfl (absurd rfl rfl) (by repeat (first | exact .z | refine .s (.h .z) ?_ | refine .s (.h (.s .z)) ?_ | refine .s (.h (.s (.s .z))) ?_ | refine .s (.h (.s (.s (.s .z)))) ?_ | refine .s (.h (.s (.s (.s (.s .z))))) ?_ | refine .s (.h (.s (.s (.s (.s (.s .z)))))) ?_ | refine .s (.h (.s (.s (.s (.s (.s (.s .z))))))) ?_ | refine .s (.h (.s (.s (.s (.s (.s (.s (.s .z)))))))) ?_ | refine .s (.h (.s (.s (.s (.s (.s (.s (.s (.s .z))))))))) ?_ | refine .s (.x .z) ?_ | refine .s (.x (.s .z)) ?_ | refine .s (.x (.s (.s .z))) ?_ | refine .s (.x (.s (.s (.s .z)))) ?_ | refine .s (.x (.s (.s (.s (.s .z))))) ?_ | refine .s (.x (.s (.s (.s (.s (.s .z)))))) ?_ | refine .s (.x (.s (.s (.s (.s (.s (.s .z))))))) ?_)) ?_
                  refine r_buildSlice sl_46 sz_43 zr_43 rfl rfl rfl rfl rfl (by first | rfl) (fun b65 => ?_)
                  refine r_appendG lk_len lk_one (p := meanL (ownL es ls k ls.length)) sl_46 sl_46 sz_43 zr_43 rfl by_43 rfl rfl rfl rfl rfl (by first | exact .h .z | exact .h (.s .z) | exact .h (.s (.s .z)) | exact .h (.s (.s (.s .z))) | exact .h (.s (.s (.s (.s .z)))) | exact .h (.s (.s (.s (.s (.s .z))))) | exact .h (.s (.s (.s (.s (.s (.s .z)))))) | exact .h (.s (.s (.s (.s (.s (.s (.s .z))))))) | exact .h (.s (.s (.s (.s (.s (.s (.s (.s .z)))))))) | exact .x .z | exact .x (.s .z) | exact .x (.s (.s .z)) | exact .x (.s (.s (.s .z))) | exact .x (.s (.s (.s (.s .z)))) | exact .x (.s (.s (.s (.s (.s .z))))) | exact .x (.s (.s (.s (.s (.s (.s .z))))))) (by first | exact .z | exact (.s .z) | exact (.s (.s .z)) | exact (.s (.s (.s .z))) | exact (.s (.s (.s (.s .z)))) | exact (.s (.s (.s (.s (.s .z))))) | exact (.s (.s (.s (.s (.s (.s .z)))))) | exact (.s (.s (.s (.s (.s (.s (.s .z))))))) | exact (.s (.s (.s (.s (.s (.s (.s (.s .z)))))))) | exact (.s (.s (.s (.s (.s (.s (.s (.s (.s .z)))))))))) (by first | rfl | exact mapG_len _ _) (by omega) (by omega) (fun b66 cap66 junk66 u66 hj66 hc66 => ?_)
                  refine r_assign rfl rfl rfl ?_
                  refine R_nil ?_
                  refine K_bn ?_
                  refine K_tn ?_
                  refine R_region ?_
                  refine r_move rfl rfl rfl ?_
                  first | refine r_addN rfl rfl rfl rfl (i64K (by omega) (by omega)) ?_ | refine r_add rfl rfl rfl rfl (i64K (by omega) (by omega)) ?_
                  refine r_assign rfl rfl rfl ?_
                  refine R_nil ?_
                  refine K_tn ?_
                  first | rw [mmF_0 (ms := es) (ls := ls) (i := k) (by omega), mapG_succ] | rw [mmF_1 (ms := es) (ls := ls) (i := k) (by omega), mapG_succ]
                  first | (exact K_again2 (pre := (fun (k : Nat) (p : RowP) => k ≤ es.length ∧ k * 3 + p.junk.length = p.cap * 3 ∧ k ≤ p.cap)) (Ei := (fun k p => [(0, .slice (some ⟨b, off, none⟩) es.length cap), (1, .slice (some ⟨b2, off2, none⟩) ls.length cap2), (6, .slice (some ⟨p.b, 0, none⟩) k p.cap), (8, .int .i64 (k : Int))])) (Hi := (fun k p => [(p.b, .cells (fm lk (mapG (mmF es ls) k) ++ p.junk).toArray p.u (0, 0))])) (μ := (fun k _ => es.length - k)) (k + 1) (RowP.mk b61 cap61 junk61 u61) (by refine ⟨?_, ?_, ?_⟩ <;> (try simp only) <;> omega) (by omega) (by repeat (first | exact trivial | refine ⟨rfl, ?_⟩)) (by repeat (first | exact .z | apply Rems.s Rem.z | apply Rems.s (Rem.s Rem.z) | apply Rems.s (Rem.s (Rem.s Rem.z)) | apply Rems.s (Rem.s (Rem.s (Rem.s Rem.z))) | apply Rems.s (Rem.s (Rem.s (Rem.s (Rem.s Rem.z)))) | apply Rems.s (Rem.s (Rem.s (Rem.s (Rem.s (Rem.s Rem.z))))) | apply Rems.s (Rem.s (Rem.s (Rem.s (Rem.s (Rem.s (Rem.s Rem.z)))))) | apply Rems.s (Rem.s (Rem.s (Rem.s (Rem.s (Rem.s (Rem.s (Rem.s Rem.z))))))) | apply Rems.s (Rem.s (Rem.s (Rem.s (Rem.s (Rem.s (Rem.s (Rem.s (Rem.s Rem.z)))))))) | apply Rems.s (Rem.s (Rem.s (Rem.s (Rem.s (Rem.s (Rem.s (Rem.s (Rem.s (Rem.s Rem.z)))))))))))) | (exact K_again2 (pre := (fun (k : Nat) (p : RowP) => k ≤ es.length ∧ k * 3 + p.junk.length = p.cap * 3 ∧ k ≤ p.cap)) (Ei := (fun k p => [(0, .slice (some ⟨b, off, none⟩) es.length cap), (1, .slice (some ⟨b2, off2, none⟩) ls.length cap2), (6, .slice (some ⟨p.b, 0, none⟩) k p.cap), (8, .int .i64 (k : Int))])) (Hi := (fun k p => [(p.b, .cells (fm lk (mapG (mmF es ls) k) ++ p.junk).toArray p.u (0, 0))])) (μ := (fun k _ => es.length - k)) (k + 1) (RowP.mk b66 cap66 junk66 u66) (by refine ⟨?_, ?_, ?_⟩ <;> (try simp only) <;> omega) (by omega) (by repeat (first | exact trivial | refine ⟨rfl, ?_⟩)) (by repeat (first | exact .z | apply Rems.s Rem.z | apply Rems.s (Rem.s Rem.z) | apply Rems.s (Rem.s (Rem.s Rem.z)) | apply Rems.s (Rem.s (Rem.s (Rem.s Rem.z))) | apply Rems.s (Rem.s (Rem.s (Rem.s (Rem.s Rem.z)))) | apply Rems.s (Rem.s (Rem.s (Rem.s (Rem.s (Rem.s Rem.z))))) | apply Rems.s (Rem.s (Rem.s (Rem.s (Rem.s (Rem.s (Rem.s Rem.z)))))) | apply Rems.s (Rem.s (Rem.s (Rem.s (Rem.s (Rem.s (Rem.s (Rem.s Rem.z))))))) | apply Rems.s (Rem.s (Rem.s (Rem.s (Rem.s (Rem.s (Rem.s (Rem.s (Rem.s Rem.z)))))))) | apply Rems.s (Rem.s (Rem.s (Rem.s (Rem.s (Rem.s (Rem.s (Rem.s (Rem.s (Rem.s Rem.z))))))))))))
      · first
        | (exfalso; omega)
        |
          refine R_nil ?_
          refine K_tn ?_
          refine K_cond_f rfl ?_
          refine K_exit ?_
          refine K_te ?_
          refine K_te ?_
          refine K_be ?_
          refine K_tn ?_
          refine K_seq ?_
          refine R_region ?_
          refine r_move rfl rfl rfl ?_
          refine r_assign rfl rfl rfl ?_
          refine r_assign rfl rfl rfl ?_
          refine R_nil ?_
          refine K_tn ?_
          refine K_ret ?_
          refine K_done (H' := [(b13, .cells [].toArray 43 (0, 0))]) rfl rfl (.s (.tmp rfl) (.s (.tmp rfl) .z)) (by repeat (first | exact .z | apply Rems.s Rem.z | apply Rems.s (Rem.s Rem.z) | apply Rems.s (Rem.s (Rem.s Rem.z)) | apply Rems.s (Rem.s (Rem.s (Rem.s Rem.z))) | apply Rems.s (Rem.s (Rem.s (Rem.s (Rem.s Rem.z)))) | apply Rems.s (Rem.s (Rem.s (Rem.s (Rem.s (Rem.s Rem.z))))) | apply Rems.s (Rem.s (Rem.s (Rem.s (Rem.s (Rem.s (Rem.s Rem.z)))))) | apply Rems.s (Rem.s (Rem.s (Rem.s (Rem.s (Rem.s (Rem.s (Rem.s Rem.z))))))) | apply Rems.s (Rem.s (Rem.s (Rem.s (Rem.s (Rem.s (Rem.s (Rem.s (Rem.s Rem.z)))))))) | apply Rems.s (Rem.s (Rem.s (Rem.s (Rem.s (Rem.s (Rem.s (Rem.s (Rem.s (Rem.s Rem.z))))))))))) ?_
          exact ⟨b13, 0, [], _, rfl, rfl, Nat.le_refl _, rfl⟩

set_option maxRecDepth 20000 in
theorem impl_MM_no (b off len cap : Nat) (l : List Value) (u : TypeId) (fr : Nat × Nat) (es : List Lk) (he : es.length = len) (hl : ∀ i, i < len → takeAt l (off + i * 3) 3 = some (lk (es.getD i lz))) (b2 off2 len2 cap2 : Nat) (l2 : List Value) (u2 : TypeId) (fr2 : Nat × Nat) (ls : List Lk) (he2 : ls.length = len2) (hl2 : ∀ i, i < len2 → takeAt l2 (off2 + i * 3) 3 = some (lk (ls.getD i lz))) (hb : len ≤ 1048576) (hb2 : len2 ≤ 1048576) (hno : lkCode es ls ≠ 0) : SpecV Try.prog 46 [.slice (some ⟨b, off, none⟩) len cap, .slice (some ⟨b2, off2, none⟩) len2 cap2] [(b, .cells l.toArray u fr), (b2, .cells l2.toArray u2 fr2)] (packV [.slice none 0 0, .int .i64 (lkCode es ls)]) := by
  refine spec_of Try.func46 rfl Try.ntmps46 rfl (fun w0 => ?_)
  subst he
  subst he2
  refine K_seq ?_
  refine R_region ?_
  refine r_assign rfl rfl rfl ?_
  refine r_assign rfl rfl rfl ?_
  refine R_nil ?_
  refine K_tn ?_
  refine K_seq ?_
  refine K_seq ?_
  refine R_region ?_
  refine r_move rfl rfl rfl ?_
  refine r_move rfl rfl rfl ?_
  refine r_callV cb_92 rfl rfl rfl rfl rfl (markCode _ _ _ _ _ _ _ es rfl hl _ _ _ _ _ _ _ ls rfl hl2 (by omega) (by omega)) (by repeat (first | exact .z | refine .s (.h .z) ?_ | refine .s (.h (.s .z)) ?_ | refine .s (.h (.s (.s .z))) ?_ | refine .s (.h (.s (.s (.s .z)))) ?_ | refine .s (.h (.s (.s (.s (.s .z))))) ?_ | refine .s (.h (.s (.s (.s (.s (.s .z)))))) ?_ | refine .s (.h (.s (.s (.s (.s (.s (.s .z))))))) ?_ | refine .s (.h (.s (.s (.s (.s (.s (.s (.s .z)))))))) ?_ | refine .s (.h (.s (.s (.s (.s (.s (.s (.s (.s .z))))))))) ?_ | refine .s (.x .z) ?_ | refine .s (.x (.s .z)) ?_ | refine .s (.x (.s (.s .z))) ?_ | refine .s (.x (.s (.s (.s .z)))) ?_ | refine .s (.x (.s (.s (.s (.s .z))))) ?_ | refine .s (.x (.s (.s (.s (.s (.s .z)))))) ?_ | refine .s (.x (.s (.s (.s (.s (.s (.s .z))))))) ?_)) ?_
  refine r_assign rfl rfl rfl ?_
  refine R_nil ?_
  refine K_tn ?_
  refine K_seq ?_
  refine R_region ?_
  refine r_move rfl rfl rfl ?_
  refine s_neq rfl rfl rfl rfl (fun h16 => ?_) (fun h16 => ?_)
  · first
    | (exfalso; omega)
    |
      refine R_nil ?_
      refine K_tn ?_
      refine K_cond_t rfl ?_
      refine K_seq ?_
      refine R_region ?_
      refine r_move rfl rfl rfl ?_
      refine r_assign rfl rfl rfl ?_
      refine r_assign rfl rfl rfl ?_
      refine R_nil ?_
      refine K_tn ?_
      refine K_ret ?_
      refine K_tr ?_
      refine K_done (H' := []) rfl rfl (.s (.tmp rfl) (.s (.tmp rfl) .z)) (by repeat (first | exact .z | apply Rems.s Rem.z | apply Rems.s (Rem.s Rem.z) | apply Rems.s (Rem.s (Rem.s Rem.z)) | apply Rems.s (Rem.s (Rem.s (Rem.s Rem.z))) | apply Rems.s (Rem.s (Rem.s (Rem.s (Rem.s Rem.z)))) | apply Rems.s (Rem.s (Rem.s (Rem.s (Rem.s (Rem.s Rem.z))))) | apply Rems.s (Rem.s (Rem.s (Rem.s (Rem.s (Rem.s (Rem.s Rem.z)))))) | apply Rems.s (Rem.s (Rem.s (Rem.s (Rem.s (Rem.s (Rem.s (Rem.s Rem.z))))))) | apply Rems.s (Rem.s (Rem.s (Rem.s (Rem.s (Rem.s (Rem.s (Rem.s (Rem.s Rem.z)))))))) | apply Rems.s (Rem.s (Rem.s (Rem.s (Rem.s (Rem.s (Rem.s (Rem.s (Rem.s (Rem.s Rem.z))))))))))) ?_
      refine ⟨?_, rfl⟩
      rfl
  · first
    | (exfalso; omega)
    |
      refine R_nil ?_
      refine K_tn ?_
      refine K_cond_f rfl ?_
      refine K_skip ?_
      refine K_tn ?_
      refine K_seq ?_
      refine R_region ?_
      refine r_move rfl rfl rfl ?_
      refine r_callV cb_95 rfl rfl rfl rfl rfl (absurd rfl rfl) (by repeat (first | exact .z | refine .s (.h .z) ?_ | refine .s (.h (.s .z)) ?_ | refine .s (.h (.s (.s .z))) ?_ | refine .s (.h (.s (.s (.s .z)))) ?_ | refine .s (.h (.s (.s (.s (.s .z))))) ?_ | refine .s (.h (.s (.s (.s (.s (.s .z)))))) ?_ | refine .s (.h (.s (.s (.s (.s (.s (.s .z))))))) ?_ | refine .s (.h (.s (.s (.s (.s (.s (.s (.s .z)))))))) ?_ | refine .s (.h (.s (.s (.s (.s (.s (.s (.s (.s .z))))))))) ?_ | refine .s (.x .z) ?_ | refine .s (.x (.s .z)) ?_ | refine .s (.x (.s (.s .z))) ?_ | refine .s (.x (.s (.s (.s .z)))) ?_ | refine .s (.x (.s (.s (.s (.s .z))))) ?_ | refine .s (.x (.s (.s (.s (.s (.s .z)))))) ?_ | refine .s (.x (.s (.s (.s (.s (.s (.s .z))))))) ?_)) ?_
      refine r_assign rfl rfl rfl ?_
      refine R_nil ?_
      refine K_tn ?_
      refine K_seq ?_
      refine K_seq ?_
      refine R_region ?_
      refine r_move rfl rfl rfl ?_
      refine r_lenS sl_46 rfl rfl rfl ?_
      refine r_move rfl rfl rfl ?_
      refine R_nil ?_
      refine K_tn ?_
      refine K_block ?_
      refine K_loop (fun (k : Nat) => k ≤ es.length) (fun k => [(0, .slice (some ⟨b, off, none⟩) es.length cap), (1, .slice (some ⟨b2, off2, none⟩) ls.length cap2), (7, .slice (some ⟨b19, 0, none⟩) es.length cap19), (21, .int .i64 (es.length : Int)), (22, .int .i64 (k : Int))]) (fun k => [(b19, .cells (fm lk (mvL es (mmF es ls) k) ++ junk19).toArray u19 (0, 0))]) (fun k => es.length - k) 0 (by omega) (by repeat (first | exact trivial | refine ⟨rfl, ?_⟩)) (by repeat (first | exact .z | apply Rems.s Rem.z | apply Rems.s (Rem.s Rem.z) | apply Rems.s (Rem.s (Rem.s Rem.z)) | apply Rems.s (Rem.s (Rem.s (Rem.s Rem.z))) | apply Rems.s (Rem.s (Rem.s (Rem.s (Rem.s Rem.z)))) | apply Rems.s (Rem.s (Rem.s (Rem.s (Rem.s (Rem.s Rem.z))))) | apply Rems.s (Rem.s (Rem.s (Rem.s (Rem.s (Rem.s (Rem.s Rem.z)))))) | apply Rems.s (Rem.s (Rem.s (Rem.s (Rem.s (Rem.s (Rem.s (Rem.s Rem.z))))))) | apply Rems.s (Rem.s (Rem.s (Rem.s (Rem.s (Rem.s (Rem.s (Rem.s (Rem.s Rem.z)))))))) | apply Rems.s (Rem.s (Rem.s (Rem.s (Rem.s (Rem.s (Rem.s (Rem.s (Rem.s (Rem.s Rem.z))))))))))) (fun k hk => ?_)
      refine K_seq ?_
      refine R_region ?_
      refine s_lss rfl rfl rfl rfl (fun h23 => ?_) (fun h23 => ?_)
      · first
        | (exfalso; omega)
        |
          refine R_nil ?_
          refine K_tn ?_
          refine K_seq ?_
          refine K_cond_t rfl ?_
          refine K_skip ?_
          refine K_tn ?_
          refine K_seq ?_
          refine K_block ?_
          refine K_seq ?_
          refine R_region ?_
          refine r_move rfl rfl rfl ?_
          refine r_assign rfl rfl rfl ?_
          refine R_nil ?_
          refine K_tn ?_
          refine K_seq ?_
          refine R_region ?_
          refine r_buildSlice sl_46 sz_43 zr_43 rfl rfl rfl rfl rfl (by first | rfl) (fun b25 => ?_)
          refine r_assign rfl rfl rfl ?_
          refine R_nil ?_
          refine K_tn ?_
          refine K_seq ?_
          refine K_seq ?_
          refine R_region ?_
          refine r_move rfl rfl rfl ?_
          refine r_lenS sl_46 rfl rfl rfl ?_
          refine r_move rfl rfl rfl ?_
          refine R_nil ?_
          refine K_tn ?_
          refine K_block ?_
          refine K_loop2 (fun (j : Nat) (q : RowP) => j ≤ ls.length ∧ (ownL es ls k j).length * 3 + q.junk.length = q.cap * 3 ∧ (ownL es ls k j).length ≤ q.cap) (fun j q => [(0, .slice (some ⟨b, off, none⟩) es.length cap), (9, .slice (some ⟨q.b, 0, none⟩) (ownL es ls k j).length q.cap), (28, .int .i64 (j : Int))]) (fun j q => [(q.b, .cells (fm lk (ownL es ls k j) ++ q.junk).toArray q.u (0, 0)), (b19, .cells (fm lk es).toArray u19 (0, 0))]) (fun j _ => ls.length - j) 0 ⟨b25, 0, [], 43⟩ (by exact ⟨Nat.zero_le _, rfl, Nat.le_refl _⟩) (by repeat (first | exact trivial | refine ⟨rfl, ?_⟩)) (by repeat (first | exact .z | apply Rems.s Rem.z | apply Rems.s (Rem.s Rem.z) | apply Rems.s (Rem.s (Rem.s Rem.z)) | apply Rems.s (Rem.s (Rem.s (Rem.s Rem.z))) | apply Rems.s (Rem.s (Rem.s (Rem.s (Rem.s Rem.z)))) | apply Rems.s (Rem.s (Rem.s (Rem.s (Rem.s (Rem.s Rem.z))))) | apply Rems.s (Rem.s (Rem.s (Rem.s (Rem.s (Rem.s (Rem.s Rem.z)))))) | apply Rems.s (Rem.s (Rem.s (Rem.s (Rem.s (Rem.s (Rem.s (Rem.s Rem.z))))))) | apply Rems.s (Rem.s (Rem.s (Rem.s (Rem.s (Rem.s (Rem.s (Rem.s (Rem.s Rem.z)))))))) | apply Rems.s (Rem.s (Rem.s (Rem.s (Rem.s (Rem.s (Rem.s (Rem.s (Rem.s (Rem.s Rem.z))))))))))) (fun j q hq1 => ?_)
          obtain ⟨hj, hi1, hi2⟩ := hq1
          have hle0 := ownL_le (ms := es) (ls := ls) (i := k) j
          refine K_seq ?_
          refine R_region ?_
          refine s_lss rfl rfl rfl rfl (fun h29 => ?_) (fun h29 => ?_)
          · first
            | (exfalso; omega)
            |
              refine R_nil ?_
              refine K_tn ?_
              refine K_seq ?_
              refine K_cond_t rfl ?_
              refine K_skip ?_
              refine K_tn ?_
              refine K_seq ?_
              refine K_block ?_
              refine K_seq ?_
              refine R_region ?_
              refine r_indexS sl_46 sz_43 rfl rfl rfl rfl (by omega) ?_
              refine r_loadA ag_43 sz_43 rfl rfl rfl (by first | exact .h .z | exact .h (.s .z) | exact .h (.s (.s .z)) | exact .h (.s (.s (.s .z))) | exact .h (.s (.s (.s (.s .z)))) | exact .h (.s (.s (.s (.s (.s .z))))) | exact .h (.s (.s (.s (.s (.s (.s .z)))))) | exact .h (.s (.s (.s (.s (.s (.s (.s .z))))))) | exact .h (.s (.s (.s (.s (.s (.s (.s (.s .z)))))))) | exact .x .z | exact .x (.s .z) | exact .x (.s (.s .z)) | exact .x (.s (.s (.s .z))) | exact .x (.s (.s (.s (.s .z)))) | exact .x (.s (.s (.s (.s (.s .z))))) | exact .x (.s (.s (.s (.s (.s (.s .z))))))) (by first | rfl | exact hl _ (by omega) | exact hl2 _ (by omega)) ?_
              refine r_alloc zr_43 rfl rfl (fun b11 => ?_)
              refine r_storeA sz_43 rfl rfl rfl (by first | rfl) (by first | rfl) (by first | exact .z | exact (.s .z) | exact (.s (.s .z)) | exact (.s (.s (.s .z))) | exact (.s (.s (.s (.s .z)))) | exact (.s (.s (.s (.s (.s .z))))) | exact (.s (.s (.s (.s (.s (.s .z)))))) | exact (.s (.s (.s (.s (.s (.s (.s .z))))))) | exact (.s (.s (.s (.s (.s (.s (.s (.s .z)))))))) | exact (.s (.s (.s (.s (.s (.s (.s (.s (.s .z)))))))))) (by first | rfl) ?_
              refine R_nil ?_
              refine K_tn ?_
              refine K_seq ?_
              refine R_region ?_
              refine r_move rfl rfl rfl ?_
              refine r_loadA ag_43 sz_43 rfl rfl rfl (by first | exact .h .z | exact .h (.s .z) | exact .h (.s (.s .z)) | exact .h (.s (.s (.s .z))) | exact .h (.s (.s (.s (.s .z)))) | exact .h (.s (.s (.s (.s (.s .z))))) | exact .h (.s (.s (.s (.s (.s (.s .z)))))) | exact .h (.s (.s (.s (.s (.s (.s (.s .z))))))) | exact .h (.s (.s (.s (.s (.s (.s (.s (.s .z)))))))) | exact .x .z | exact .x (.s .z) | exact .x (.s (.s .z)) | exact .x (.s (.s (.s .z))) | exact .x (.s (.s (.s (.s .z)))) | exact .x (.s (.s (.s (.s (.s .z))))) | exact .x (.s (.s (.s (.s (.s (.s .z))))))) (by first | rfl | exact hl _ (by omega) | exact hl2 _ (by omega)) ?_
              refine r_callV cb_93 rfl rfl rfl rfl rfl (absurd rfl rfl) (by repeat (first | exact .z | refine .s (.h .z) ?_ | refine .s (.h (.s .z)) ?_ | refine .s (.h (.s (.s .z))) ?_ | refine .s (.h (.s (.s (.s .z)))) ?_ | refine .s (.h (.s (.s (.s (.s .z))))) ?_ | refine .s (.h (.s (.s (.s (.s (.s .z)))))) ?_ | refine .s (.h (.s (.s (.s (.s (.s (.s .z))))))) ?_ | refine .s (.h (.s (.s (.s (.s (.s (.s (.s .z)))))))) ?_ | refine .s (.h (.s (.s (.s (.s (.s (.s (.s (.s .z))))))))) ?_ | refine .s (.x .z) ?_ | refine .s (.x (.s .z)) ?_ | refine .s (.x (.s (.s .z))) ?_ | refine .s (.x (.s (.s (.s .z)))) ?_ | refine .s (.x (.s (.s (.s (.s .z))))) ?_ | refine .s (.x (.s (.s (.s (.s (.s .z)))))) ?_ | refine .s (.x (.s (.s (.s (.s (.s (.s .z))))))) ?_)) ?_
              refine r_move rfl rfl rfl ?_
              refine s_eql rfl rfl rfl rfl (fun h36 => ?_) (fun h36 => ?_)
              · first
                | (exfalso; omega)
                |
                  refine R_nil ?_
                  refine K_tn ?_
                  refine K_cond_t rfl ?_
                  refine R_region ?_
                  refine r_move rfl rfl rfl ?_
                  refine r_loadA ag_43 sz_43 rfl rfl rfl (by first | exact .h .z | exact .h (.s .z) | exact .h (.s (.s .z)) | exact .h (.s (.s (.s .z))) | exact .h (.s (.s (.s (.s .z)))) | exact .h (.s (.s (.s (.s (.s .z))))) | exact .h (.s (.s (.s (.s (.s (.s .z)))))) | exact .h (.s (.s (.s (.s (.s (.s (.s .z))))))) | exact .h (.s (.s (.s (.s (.s (.s (.s (.s .z)))))))) | exact .x .z | exact .x (.s .z) | exact .x (.s (.s .z)) | exact .x (.s (.s (.s .z))) | exact .x (.s (.s (.s (.s .z)))) | exact .x (.s (.s (.s (.s (.s .z))))) | exact .x (.s (.s (.s (.s (.s (.s .z))))))) (by first | rfl | exact hl _ (by omega) | exact hl2 _ (by omega)) ?_
                  refine r_buildSlice sl_46 sz_43 zr_43 rfl rfl rfl rfl rfl (by first | rfl) (fun b39 => ?_)
                  refine r_appendG lk_len lk_one (p := ls.getD j lz) sl_46 sl_46 sz_43 zr_43 rfl by_43 rfl rfl rfl rfl rfl (by first | exact .h .z | exact .h (.s .z) | exact .h (.s (.s .z)) | exact .h (.s (.s (.s .z))) | exact .h (.s (.s (.s (.s .z)))) | exact .h (.s (.s (.s (.s (.s .z))))) | exact .h (.s (.s (.s (.s (.s (.s .z)))))) | exact .h (.s (.s (.s (.s (.s (.s (.s .z))))))) | exact .h (.s (.s (.s (.s (.s (.s (.s (.s .z)))))))) | exact .x .z | exact .x (.s .z) | exact .x (.s (.s .z)) | exact .x (.s (.s (.s .z))) | exact .x (.s (.s (.s (.s .z)))) | exact .x (.s (.s (.s (.s (.s .z))))) | exact .x (.s (.s (.s (.s (.s (.s .z))))))) (by first | exact .z | exact (.s .z) | exact (.s (.s .z)) | exact (.s (.s (.s .z))) | exact (.s (.s (.s (.s .z)))) | exact (.s (.s (.s (.s (.s .z))))) | exact (.s (.s (.s (.s (.s (.s .z)))))) | exact (.s (.s (.s (.s (.s (.s (.s .z))))))) | exact (.s (.s (.s (.s (.s (.s (.s (.s .z)))))))) | exact (.s (.s (.s (.s (.s (.s (.s (.s (.s .z)))))))))) (by first | rfl | exact mapG_len _ _) (by omega) (by omega) (fun b40 cap40 junk40 u40 hj40 hc40 => ?_)
                  refine r_assign rfl rfl rfl ?_
                  refine R_nil ?_
                  refine K_bn ?_
                  refine K_tn ?_
                  refine R_region ?_
                  first | refine r_addN rfl rfl rfl rfl (i64K (by omega) (by omega)) ?_ | refine r_add rfl rfl rfl rfl (i64K (by omega) (by omega)) ?_
                  refine r_move rfl rfl rfl ?_
                  refine R_nil ?_
                  refine K_tn ?_
                  first | (have hE := ownL_t (ms := es) (ls := ls) (i := k) (j := j) (by omega); have hEl : (ownL es ls k j).length + 1 = (ownL es ls k (j + 1)).length := (by rw [← hE]; simp); rw [hE, hEl]; rw [hEl] at hj40 hc40) | (have hE := ownL_f (ms := es) (ls := ls) (i := k) (j := j) (by omega); have hEl := congrArg List.length hE; rw [hE])
                  first | (exact K_again2 (pre := (fun (j : Nat) (q : RowP) => j ≤ ls.length ∧ (ownL es ls k j).length * 3 + q.junk.length = q.cap * 3 ∧ (ownL es ls k j).length ≤ q.cap)) (Ei := (fun j q => [(0, .slice (some ⟨b, off, none⟩) es.length cap), (9, .slice (some ⟨q.b, 0, none⟩) (ownL es ls k j).length q.cap), (28, .int .i64 (j : Int))])) (Hi := (fun j q => [(q.b, .cells (fm lk (ownL es ls k j) ++ q.junk).toArray q.u (0, 0)), (b19, .cells (fm lk es).toArray u19 (0, 0))])) (μ := (fun j _ => ls.length - j)) (j + 1) (RowP.mk b40 cap40 junk40 u40) (by refine ⟨?_, ?_, ?_⟩ <;> (try simp only) <;> omega) (by omega) (by repeat (first | exact trivial | refine ⟨rfl, ?_⟩)) (by repeat (first | exact .z | apply Rems.s Rem.z | apply Rems.s (Rem.s Rem.z) | apply Rems.s (Rem.s (Rem.s Rem.z)) | apply Rems.s (Rem.s (Rem.s (Rem.s Rem.z))) | apply Rems.s (Rem.s (Rem.s (Rem.s (Rem.s Rem.z)))) | apply Rems.s (Rem.s (Rem.s (Rem.s (Rem.s (Rem.s Rem.z))))) | apply Rems.s (Rem.s (Rem.s (Rem.s (Rem.s (Rem.s (Rem.s Rem.z)))))) | apply Rems.s (Rem.s (Rem.s (Rem.s (Rem.s (Rem.s (Rem.s (Rem.s Rem.z))))))) | apply Rems.s (Rem.s (Rem.s (Rem.s (Rem.s (Rem.s (Rem.s (Rem.s (Rem.s Rem.z)))))))) | apply Rems.s (Rem.s (Rem.s (Rem.s (Rem.s (Rem.s (Rem.s (Rem.s (Rem.s (Rem.s Rem.z)))))))))))) | (exact K_again2 (pre := (fun (j : Nat) (q : RowP) => j ≤ ls.length ∧ (ownL es ls k j).length * 3 + q.junk.length = q.cap * 3 ∧ (ownL es ls k j).length ≤ q.cap)) (Ei := (fun j q => [(0, .slice (some ⟨b, off, none⟩) es.length cap), (9, .slice (some ⟨q.b, 0, none⟩) (ownL es ls k j).length q.cap), (28, .int .i64 (j : Int))])) (Hi := (fun j q => [(q.b, .cells (fm lk (ownL es ls k j) ++ q.junk).toArray q.u (0, 0)), (b19, .cells (fm lk es).toArray u19 (0, 0))])) (μ := (fun j _ => ls.length - j)) (j + 1) q (by refine ⟨?_, ?_, ?_⟩ <;> (try simp only) <;> omega) (by omega) (by repeat (first | exact trivial | refine ⟨rfl, ?_⟩)) (by repeat (first | exact .z | apply Rems.s Rem.z | apply Rems.s (Rem.s Rem.z) | apply Rems.s (Rem.s (Rem.s Rem.z)) | apply Rems.s (Rem.s (Rem.s (Rem.s Rem.z))) | apply Rems.s (Rem.s (Rem.s (Rem.s (Rem.s Rem.z)))) | apply Rems.s (Rem.s (Rem.s (Rem.s (Rem.s (Rem.s Rem.z))))) | apply Rems.s (Rem.s (Rem.s (Rem.s (Rem.s (Rem.s (Rem.s Rem.z)))))) | apply Rems.s (Rem.s (Rem.s (Rem.s (Rem.s (Rem.s (Rem.s (Rem.s Rem.z))))))) | apply Rems.s (Rem.s (Rem.s (Rem.s (Rem.s (Rem.s (Rem.s (Rem.s (Rem.s Rem.z)))))))) | apply Rems.s (Rem.s (Rem.s (Rem.s (Rem.s (Rem.s (Rem.s (Rem.s (Rem.s (Rem.s Rem.z))))))))))))
              · first
                | (exfalso; omega)
                |
                  refine R_nil ?_
                  refine K_tn ?_
                  refine K_cond_f rfl ?_
                  refine K_skip ?_
                  refine K_bn ?_
                  refine K_tn ?_
                  refine R_region ?_
                  first | refine r_addN rfl rfl rfl rfl (i64K (by omega) (by omega)) ?_ | refine r_add rfl rfl rfl rfl (i64K (by omega) (by omega)) ?_
                  refine r_move rfl rfl rfl ?_
                  refine R_nil ?_
                  refine K_tn ?_
                  first | (have hE := ownL_t (ms := es) (ls := ls) (i := k) (j := j) (by omega); have hEl : (ownL es ls k j).length + 1 = (ownL es ls k (j + 1)).length := (by rw [← hE]; simp); rw [hE, hEl]; rw [hEl] at hj40 hc40) | (have hE := ownL_f (ms := es) (ls := ls) (i := k) (j := j) (by omega); have hEl := congrArg List.length hE; rw [hE])
                  first | (exact K_again2 (pre := (fun (j : Nat) (q : RowP) => j ≤ ls.length ∧ (ownL es ls k j).length * 3 + q.junk.length = q.cap * 3 ∧ (ownL es ls k j).length ≤ q.cap)) (Ei := (fun j q => [(0, .slice (some ⟨b, off, none⟩) es.length cap), (9, .slice (some ⟨q.b, 0, none⟩) (ownL es ls k j).length q.cap), (28, .int .i64 (j : Int))])) (Hi := (fun j q => [(q.b, .cells (fm lk (ownL es ls k j) ++ q.junk).toArray q.u (0, 0)), (b19, .cells (fm lk es).toArray u19 (0, 0))])) (μ := (fun j _ => ls.length - j)) (j + 1) (RowP.mk b40 cap40 junk40 u40) (by refine ⟨?_, ?_, ?_⟩ <;> (try simp only) <;> omega) (by omega) (by repeat (first | exact trivial | refine ⟨rfl, ?_⟩)) (by repeat (first | exact .z | apply Rems.s Rem.z | apply Rems.s (Rem.s Rem.z) | apply Rems.s (Rem.s (Rem.s Rem.z)) | apply Rems.s (Rem.s (Rem.s (Rem.s Rem.z))) | apply Rems.s (Rem.s (Rem.s (Rem.s (Rem.s Rem.z)))) | apply Rems.s (Rem.s (Rem.s (Rem.s (Rem.s (Rem.s Rem.z))))) | apply Rems.s (Rem.s (Rem.s (Rem.s (Rem.s (Rem.s (Rem.s Rem.z)))))) | apply Rems.s (Rem.s (Rem.s (Rem.s (Rem.s (Rem.s (Rem.s (Rem.s Rem.z))))))) | apply Rems.s (Rem.s (Rem.s (Rem.s (Rem.s (Rem.s (Rem.s (Rem.s (Rem.s Rem.z)))))))) | apply Rems.s (Rem.s (Rem.s (Rem.s (Rem.s (Rem.s (Rem.s (Rem.s (Rem.s (Rem.s Rem.z)))))))))))) | (exact K_again2 (pre := (fun (j : Nat) (q : RowP) => j ≤ ls.length ∧ (ownL es ls k j).length * 3 + q.junk.length = q.cap * 3 ∧ (ownL es ls k j).length ≤ q.cap)) (Ei := (fun j q => [(0, .slice (some ⟨b, off, none⟩) es.length cap), (9, .slice (some ⟨q.b, 0, none⟩) (ownL es ls k j).length q.cap), (28, .int .i64 (j : Int))])) (Hi := (fun j q => [(q.b, .cells (fm lk (ownL es ls k j) ++ q.junk).toArray q.u (0, 0)), (b19, .cells (fm lk es).toArray u19 (0, 0))])) (μ := (fun j _ => ls.length - j)) (j + 1) q (by refine ⟨?_, ?_, ?_⟩ <;> (try simp only) <;> omega) (by omega) (by repeat (first | exact trivial | refine ⟨rfl, ?_⟩)) (by repeat (first | exact .z | apply Rems.s Rem.z | apply Rems.s (Rem.s Rem.z) | apply Rems.s (Rem.s (Rem.s Rem.z)) | apply Rems.s (Rem.s (Rem.s (Rem.s Rem.z))) | apply Rems.s (Rem.s (Rem.s (Rem.s (Rem.s Rem.z)))) | apply Rems.s (Rem.s (Rem.s (Rem.s (Rem.s (Rem.s Rem.z))))) | apply Rems.s (Rem.s (Rem.s (Rem.s (Rem.s (Rem.s (Rem.s Rem.z)))))) | apply Rems.s (Rem.s (Rem.s (Rem.s (Rem.s (Rem.s (Rem.s (Rem.s Rem.z))))))) | apply Rems.s (Rem.s (Rem.s (Rem.s (Rem.s (Rem.s (Rem.s (Rem.s (Rem.s Rem.z)))))))) | apply Rems.s (Rem.s (Rem.s (Rem.s (Rem.s (Rem.s (Rem.s (Rem.s (Rem.s (Rem.s Rem.z))))))))))))
          · first
            | (exfalso; omega)
            |
              refine R_nil ?_
              refine K_tn ?_
              refine K_seq ?_
              refine K_cond_f rfl ?_
              refine K_exit ?_
              refine K_te ?_
              refine K_te ?_
              refine K_be ?_
              refine K_tn ?_
              refine K_seq ?_
              refine R_region ?_
              refine r_move rfl rfl rfl ?_
              refine r_lenS sl_46 rfl rfl rfl ?_
              refine s_gtr rfl rfl rfl rfl (fun h44 => ?_) (fun h44 => ?_)
              · first
                | (exfalso; omega)
                |
                  refine R_nil ?_
                  refine K_tn ?_
                  refine K_cond_t rfl ?_
                  refine R_region ?_
                  refine r_move rfl rfl rfl ?_
                  refine r_move rfl rfl rfl ?_
                  refine r_move rfl rfl rfl ?_
                  refine r_callV cb_89 rfl rfl rfl rfl rfl (absurd rfl rfl) (by repeat (first | exact .z | refine .s (.h .z) ?_ | refine .s (.h (.s .z)) ?_ | refine .s (.h (.s (.s .z))) ?_ | refine .s (.h (.s (.s (.s .z)))) ?_ | refine .s (.h (.s (.s (.s (.s .z))))) ?_ | refine .s (.h (.s (.s (.s (.s (.s .z)))))) ?_ | refine .s (.h (.s (.s (.s (.s (.s (.s .z))))))) ?_ | refine .s (.h (.s (.s (.s (.s (.s (.s (.s .z)))))))) ?_ | refine .s (.h (.s (.s (.s (.s (.s (.s (.s (.s .z))))))))) ?_ | refine .s (.x .z) ?_ | refine .s (.x (.s .z)) ?_ | refine .s (.x (.s (.s .z))) ?_ | refine .s (.x (.s (.s (.s .z)))) ?_ | refine .s (.x (.s (.s (.s (.s .z))))) ?_ | refine .s (.x (.s (.s (.s (.s (.s .z)))))) ?_ | refine .s (.x (.s (.s (.s (.s (.s (.s .z))))))) ?_)) ?_
                  refine r_indexS sl_46 sz_43 rfl rfl rfl rfl (by omega) ?_
                  refine r_storeA sz_43 rfl rfl rfl (by first | rfl) (by first | rfl) (by first | exact .z | exact (.s .z) | exact (.s (.s .z)) | exact (.s (.s (.s .z))) | exact (.s (.s (.s (.s .z)))) | exact (.s (.s (.s (.s (.s .z))))) | exact (.s (.s (.s (.s (.s (.s .z)))))) | exact (.s (.s (.s (.s (.s (.s (.s .z))))))) | exact (.s (.s (.s (.s (.s (.s (.s (.s .z)))))))) | exact (.s (.s (.s (.s (.s (.s (.s (.s (.s .z)))))))))) (by first | rfl) ?_
                  refine R_nil ?_
                  refine K_bn ?_
                  refine K_tn ?_
                  refine R_region ?_
                  first | refine r_addN rfl rfl rfl rfl (i64K (by omega) (by omega)) ?_ | refine r_add rfl rfl rfl rfl (i64K (by omega) (by omega)) ?_
                  refine r_move rfl rfl rfl ?_
                  refine R_nil ?_
                  refine K_tn ?_
                  first | rw [mmF_1 (ms := es) (ls := ls) (i := k) (by omega), fm_put lk_len _ (by rw [mvL_len (by omega)]; omega), mvL_set (by omega)] | rw [mvL_keep (ms := es) (f := mmF es ls) (k := k) (by omega) (mmF_0 (ms := es) (ls := ls) (i := k) (by omega))]
                  exact K_again (k + 1) (by omega) (by omega) (by repeat (first | exact trivial | refine ⟨rfl, ?_⟩)) (by repeat (first | exact .z | apply Rems.s Rem.z | apply Rems.s (Rem.s Rem.z) | apply Rems.s (Rem.s (Rem.s Rem.z)) | apply Rems.s (Rem.s (Rem.s (Rem.s Rem.z))) | apply Rems.s (Rem.s (Rem.s (Rem.s (Rem.s Rem.z)))) | apply Rems.s (Rem.s (Rem.s (Rem.s (Rem.s (Rem.s Rem.z))))) | apply Rems.s (Rem.s (Rem.s (Rem.s (Rem.s (Rem.s (Rem.s Rem.z)))))) | apply Rems.s (Rem.s (Rem.s (Rem.s (Rem.s (Rem.s (Rem.s (Rem.s Rem.z))))))) | apply Rems.s (Rem.s (Rem.s (Rem.s (Rem.s (Rem.s (Rem.s (Rem.s (Rem.s Rem.z)))))))) | apply Rems.s (Rem.s (Rem.s (Rem.s (Rem.s (Rem.s (Rem.s (Rem.s (Rem.s (Rem.s Rem.z)))))))))))
              · first
                | (exfalso; omega)
                |
                  refine R_nil ?_
                  refine K_tn ?_
                  refine K_cond_f rfl ?_
                  refine K_skip ?_
                  refine K_bn ?_
                  refine K_tn ?_
                  refine R_region ?_
                  first | refine r_addN rfl rfl rfl rfl (i64K (by omega) (by omega)) ?_ | refine r_add rfl rfl rfl rfl (i64K (by omega) (by omega)) ?_
                  refine r_move rfl rfl rfl ?_
                  refine R_nil ?_
                  refine K_tn ?_
                  first | rw [mmF_1 (ms := es) (ls := ls) (i := k) (by omega), fm_put lk_len _ (by rw [mvL_len (by omega)]; omega), mvL_set (by omega)] | rw [mvL_keep (ms := es) (f := mmF es ls) (k := k) (by omega) (mmF_0 (ms := es) (ls := ls) (i := k) (by omega))]
                  exact K_again (k + 1) (by omega) (by omega) (by repeat (first | exact trivial | refine ⟨rfl, ?_⟩)) (by repeat (first | exact .z | apply Rems.s Rem.z | apply Rems.s (Rem.s Rem.z) | apply Rems.s (Rem.s (Rem.s Rem.z)) | apply Rems.s (Rem.s (Rem.s (Rem.s Rem.z))) | apply Rems.s (Rem.s (Rem.s (Rem.s (Rem.s Rem.z)))) | apply Rems.s (Rem.s (Rem.s (Rem.s (Rem.s (Rem.s Rem.z))))) | apply Rems.s (Rem.s (Rem.s (Rem.s (Rem.s (Rem.s (Rem.s Rem.z)))))) | apply Rems.s (Rem.s (Rem.s (Rem.s (Rem.s (Rem.s (Rem.s (Rem.s Rem.z))))))) | apply Rems.s (Rem.s (Rem.s (Rem.s (Rem.s (Rem.s (Rem.s (Rem.s (Rem.s Rem.z)))))))) | apply Rems.s (Rem.s (Rem.s (Rem.s (Rem.s (Rem.s (Rem.s (Rem.s (Rem.s (Rem.s Rem.z)))))))))))
      · first
        | (exfalso; omega)
        |
          refine R_nil ?_
          refine K_tn ?_
          refine K_seq ?_
          refine K_cond_f rfl ?_
          refine K_exit ?_
          refine K_te ?_
          refine K_te ?_
          refine K_be ?_
          refine K_tn ?_
          refine K_seq ?_
          refine R_region ?_
          refine r_move rfl rfl rfl ?_
          refine r_assign rfl rfl rfl ?_
          refine r_assign rfl rfl rfl ?_
          refine R_nil ?_
          refine K_tn ?_
          refine K_ret ?_
          refine K_done (H' := []) rfl rfl (.s (.tmp rfl) (.s (.tmp rfl) .z)) (by repeat (first | exact .z | apply Rems.s Rem.z | apply Rems.s (Rem.s Rem.z) | apply Rems.s (Rem.s (Rem.s Rem.z)) | apply Rems.s (Rem.s (Rem.s (Rem.s Rem.z))) | apply Rems.s (Rem.s (Rem.s (Rem.s (Rem.s Rem.z)))) | apply Rems.s (Rem.s (Rem.s (Rem.s (Rem.s (Rem.s Rem.z))))) | apply Rems.s (Rem.s (Rem.s (Rem.s (Rem.s (Rem.s (Rem.s Rem.z)))))) | apply Rems.s (Rem.s (Rem.s (Rem.s (Rem.s (Rem.s (Rem.s (Rem.s Rem.z))))))) | apply Rems.s (Rem.s (Rem.s (Rem.s (Rem.s (Rem.s (Rem.s (Rem.s (Rem.s Rem.z)))))))) | apply Rems.s (Rem.s (Rem.s (Rem.s (Rem.s (Rem.s (Rem.s (Rem.s (Rem.s (Rem.s Rem.z))))))))))) ?_
          refine ⟨?_, rfl⟩
          rfl

set_option maxRecDepth 20000 in
theorem markLX_nil (v c : Nat) (o : Option Addr) : SpecV Try.prog 44 [.slice o 0 c, .int .i64 (v : Int)] [] (.int .i64 (v : Int)) := by
  refine spec_of Try.func44 rfl Try.ntmps44 rfl (fun w0 => ?_)
  refine K_seq ?_
  refine R_region ?_
  refine r_assign rfl rfl rfl ?_
  refine R_nil ?_
  refine K_tn ?_
  refine K_seq ?_
  refine K_seq ?_
  refine R_region ?_
  refine r_assign rfl rfl rfl ?_
  refine R_nil ?_
  refine K_tn ?_
  refine K_block ?_
  refine K_loop (fun (_ : Nat) => True) (fun _ => [(0, .slice o 0 c), (1, .int .i64 (v : Int)), (5, .int .i64 0)]) (fun _ => []) (fun k => k) 0 (by trivial) (by repeat (first | exact trivial | refine ⟨rfl, ?_⟩)) (by repeat (first | exact .z | apply Rems.s Rem.z | apply Rems.s (Rem.s Rem.z) | apply Rems.s (Rem.s (Rem.s Rem.z)) | apply Rems.s (Rem.s (Rem.s (Rem.s Rem.z))) | apply Rems.s (Rem.s (Rem.s (Rem.s (Rem.s Rem.z)))) | apply Rems.s (Rem.s (Rem.s (Rem.s (Rem.s (Rem.s Rem.z))))) | apply Rems.s (Rem.s (Rem.s (Rem.s (Rem.s (Rem.s (Rem.s Rem.z)))))) | apply Rems.s (Rem.s (Rem.s (Rem.s (Rem.s (Rem.s (Rem.s (Rem.s Rem.z))))))) | apply Rems.s (Rem.s (Rem.s (Rem.s (Rem.s (Rem.s (Rem.s (Rem.s (Rem.s Rem.z)))))))) | apply Rems.s (Rem.s (Rem.s (Rem.s (Rem.s (Rem.s (Rem.s (Rem.s (Rem.s (Rem.s Rem.z))))))))))) (fun k hp => ?_)
  refine K_seq ?_
  refine K_seq ?_
  refine R_region ?_
  refine r_move rfl rfl rfl ?_
  refine r_move rfl rfl rfl ?_
  refine r_lenS sl_46 rfl rfl rfl ?_
  refine s_lss rfl rfl rfl rfl (fun h9 => ?_) (fun h9 => ?_)
  · first
    | (exfalso; omega)
    |
      refine R_nil ?_
      refine K_tn ?_
      refine K_cond_t rfl ?_
      refine K_skip ?_
      refine K_tn ?_
      refine K_seq ?_
      refine K_block ?_
      refine K_seq ?_
      refine R_region ?_
      refine r_move rfl rfl rfl ?_
      refine r_move rfl rfl rfl ?_
      refine r_move rfl rfl rfl ?_
      refine r_convIF ⟨_, un_3⟩ un_41 rfl rfl rfl ?_
      refine r_indexS sl_46 sz_43 rfl rfl rfl rfl (by omega) ?_
      refine r_fieldAddr fd_43_0 rfl rfl rfl ?_
      refine r_store sz_41 rfl rfl rfl rfl (by first | exact .z | exact (.s .z) | exact (.s (.s .z)) | exact (.s (.s (.s .z))) | exact (.s (.s (.s (.s .z)))) | exact (.s (.s (.s (.s (.s .z))))) | exact (.s (.s (.s (.s (.s (.s .z)))))) | exact (.s (.s (.s (.s (.s (.s (.s .z))))))) | exact (.s (.s (.s (.s (.s (.s (.s (.s .z)))))))) | exact (.s (.s (.s (.s (.s (.s (.s (.s (.s .z)))))))))) (by first | rfl) ?_
      refine R_nil ?_
      refine K_tn ?_
      refine K_seq ?_
      refine R_region ?_
      refine r_move rfl rfl rfl ?_
      first | refine r_addN rfl rfl rfl rfl (i64K (by omega) (by omega)) ?_ | refine r_add rfl rfl rfl rfl (i64K (by omega) (by omega)) ?_
      refine r_assign rfl rfl rfl ?_
      refine R_nil ?_
      refine K_tn ?_
      refine K_seq ?_
      refine R_region ?_
      refine r_move rfl rfl rfl ?_
      refine r_move rfl rfl rfl ?_
      refine r_move rfl rfl rfl ?_
      refine r_convIF ⟨_, un_3⟩ un_41 rfl rfl rfl ?_
      refine r_indexS sl_46 sz_43 rfl rfl rfl rfl (by omega) ?_
      refine r_fieldAddr fd_43_1 rfl rfl rfl ?_
      refine r_store sz_41 rfl rfl rfl rfl (by first | exact .z | exact (.s .z) | exact (.s (.s .z)) | exact (.s (.s (.s .z))) | exact (.s (.s (.s (.s .z)))) | exact (.s (.s (.s (.s (.s .z))))) | exact (.s (.s (.s (.s (.s (.s .z)))))) | exact (.s (.s (.s (.s (.s (.s (.s .z))))))) | exact (.s (.s (.s (.s (.s (.s (.s (.s .z)))))))) | exact (.s (.s (.s (.s (.s (.s (.s (.s (.s .z)))))))))) (by first | rfl) ?_
      refine R_nil ?_
      refine K_tn ?_
      refine K_seq ?_
      refine R_region ?_
      refine r_move rfl rfl rfl ?_
      first | refine r_addN rfl rfl rfl rfl (i64K (by omega) (by omega)) ?_ | refine r_add rfl rfl rfl rfl (i64K (by omega) (by omega)) ?_
      refine r_assign rfl rfl rfl ?_
      refine R_nil ?_
      refine K_tn ?_
      refine K_seq ?_
      refine R_region ?_
      refine r_move rfl rfl rfl ?_
      refine r_move rfl rfl rfl ?_
      refine r_move rfl rfl rfl ?_
      refine r_convIF ⟨_, un_3⟩ un_41 rfl rfl rfl ?_
      refine r_indexS sl_46 sz_43 rfl rfl rfl rfl (by omega) ?_
      refine r_fieldAddr fd_43_2 rfl rfl rfl ?_
      refine r_store sz_41 rfl rfl rfl rfl (by first | exact .z | exact (.s .z) | exact (.s (.s .z)) | exact (.s (.s (.s .z))) | exact (.s (.s (.s (.s .z)))) | exact (.s (.s (.s (.s (.s .z))))) | exact (.s (.s (.s (.s (.s (.s .z)))))) | exact (.s (.s (.s (.s (.s (.s (.s .z))))))) | exact (.s (.s (.s (.s (.s (.s (.s (.s .z)))))))) | exact (.s (.s (.s (.s (.s (.s (.s (.s (.s .z)))))))))) (by first | rfl) ?_
      refine R_nil ?_
      refine K_tn ?_
      refine R_region ?_
      refine r_move rfl rfl rfl ?_
      first | refine r_addN rfl rfl rfl rfl (i64K (by omega) (by omega)) ?_ | refine r_add rfl rfl rfl rfl (i64K (by omega) (by omega)) ?_
      refine r_assign rfl rfl rfl ?_
      refine R_nil ?_
      refine K_bn ?_
      refine K_tn ?_
      refine R_region ?_
      refine r_move rfl rfl rfl ?_
      first | refine r_addN rfl rfl rfl rfl (i64K (by omega) (by omega)) ?_ | refine r_add rfl rfl rfl rfl (i64K (by omega) (by omega)) ?_
      refine r_assign rfl rfl rfl ?_
      refine R_nil ?_
      refine K_tn ?_
      exact K_again 0 (by (exfalso; omega)) (by omega) (by repeat (first | exact trivial | refine ⟨rfl, ?_⟩)) (by repeat (first | exact .z | apply Rems.s Rem.z | apply Rems.s (Rem.s Rem.z) | apply Rems.s (Rem.s (Rem.s Rem.z)) | apply Rems.s (Rem.s (Rem.s (Rem.s Rem.z))) | apply Rems.s (Rem.s (Rem.s (Rem.s (Rem.s Rem.z)))) | apply Rems.s (Rem.s (Rem.s (Rem.s (Rem.s (Rem.s Rem.z))))) | apply Rems.s (Rem.s (Rem.s (Rem.s (Rem.s (Rem.s (Rem.s Rem.z)))))) | apply Rems.s (Rem.s (Rem.s (Rem.s (Rem.s (Rem.s (Rem.s (Rem.s Rem.z))))))) | apply Rems.s (Rem.s (Rem.s (Rem.s (Rem.s (Rem.s (Rem.s (Rem.s (Rem.s Rem.z)))))))) | apply Rems.s (Rem.s (Rem.s (Rem.s (Rem.s (Rem.s (Rem.s (Rem.s (Rem.s (Rem.s Rem.z)))))))))))
  · first
    | (exfalso; omega)
    |
      refine R_nil ?_
      refine K_tn ?_
      refine K_cond_f rfl ?_
      refine K_exit ?_
      refine K_te ?_
      refine K_te ?_
      refine K_be ?_
      refine K_tn ?_
      refine K_seq ?_
      refine R_region ?_
      refine r_move rfl rfl rfl ?_
      refine r_assign rfl rfl rfl ?_
      refine R_nil ?_
      refine K_tn ?_
      refine K_ret ?_
      refine K_done (H' := []) rfl rfl (.s (.tmp rfl) .z) (by repeat (first | exact .z | apply Rems.s Rem.z | apply Rems.s (Rem.s Rem.z) | apply Rems.s (Rem.s (Rem.s Rem.z)) | apply Rems.s (Rem.s (Rem.s (Rem.s Rem.z))) | apply Rems.s (Rem.s (Rem.s (Rem.s (Rem.s Rem.z)))) | apply Rems.s (Rem.s (Rem.s (Rem.s (Rem.s (Rem.s Rem.z))))) | apply Rems.s (Rem.s (Rem.s (Rem.s (Rem.s (Rem.s (Rem.s Rem.z)))))) | apply Rems.s (Rem.s (Rem.s (Rem.s (Rem.s (Rem.s (Rem.s (Rem.s Rem.z))))))) | apply Rems.s (Rem.s (Rem.s (Rem.s (Rem.s (Rem.s (Rem.s (Rem.s (Rem.s Rem.z)))))))) | apply Rems.s (Rem.s (Rem.s (Rem.s (Rem.s (Rem.s (Rem.s (Rem.s (Rem.s (Rem.s Rem.z))))))))))) ?_
      refine ⟨?_, rfl⟩
      rfl

set_option maxRecDepth 20000 in
theorem heldLX_nil (v c : Nat) (o : Option Addr) : SpecV Try.prog 47 [.slice o 0 c, .int .i64 (v : Int)] [] (.int .i64 (v : Int)) := by
  refine spec_of Try.func47 rfl Try.ntmps47 rfl (fun w0 => ?_)
  refine K_seq ?_
  refine R_region ?_
  refine r_assign rfl rfl rfl ?_
  refine R_nil ?_
  refine K_tn ?_
  refine K_seq ?_
  refine K_seq ?_
  refine R_region ?_
  refine r_assign rfl rfl rfl ?_
  refine R_nil ?_
  refine K_tn ?_
  refine K_block ?_
  refine K_loop (fun (_ : Nat) => True) (fun _ => [(0, .slice o 0 c), (1, .int .i64 (v : Int)), (5, .int .i64 0)]) (fun _ => []) (fun k => k) 0 (by trivial) (by repeat (first | exact trivial | refine ⟨rfl, ?_⟩)) (by repeat (first | exact .z | apply Rems.s Rem.z | apply Rems.s (Rem.s Rem.z) | apply Rems.s (Rem.s (Rem.s Rem.z)) | apply Rems.s (Rem.s (Rem.s (Rem.s Rem.z))) | apply Rems.s (Rem.s (Rem.s (Rem.s (Rem.s Rem.z)))) | apply Rems.s (Rem.s (Rem.s (Rem.s (Rem.s (Rem.s Rem.z))))) | apply Rems.s (Rem.s (Rem.s (Rem.s (Rem.s (Rem.s (Rem.s Rem.z)))))) | apply Rems.s (Rem.s (Rem.s (Rem.s (Rem.s (Rem.s (Rem.s (Rem.s Rem.z))))))) | apply Rems.s (Rem.s (Rem.s (Rem.s (Rem.s (Rem.s (Rem.s (Rem.s (Rem.s Rem.z)))))))) | apply Rems.s (Rem.s (Rem.s (Rem.s (Rem.s (Rem.s (Rem.s (Rem.s (Rem.s (Rem.s Rem.z))))))))))) (fun k hp => ?_)
  refine K_seq ?_
  refine K_seq ?_
  refine R_region ?_
  refine r_move rfl rfl rfl ?_
  refine r_move rfl rfl rfl ?_
  refine r_lenS sl_46 rfl rfl rfl ?_
  refine s_lss rfl rfl rfl rfl (fun h9 => ?_) (fun h9 => ?_)
  · first
    | (exfalso; omega)
    |
      refine R_nil ?_
      refine K_tn ?_
      refine K_cond_t rfl ?_
      refine K_skip ?_
      refine K_tn ?_
      refine K_seq ?_
      refine K_block ?_
      refine K_seq ?_
      refine K_seq ?_
      refine R_region ?_
      refine r_move rfl rfl rfl ?_
      refine r_move rfl rfl rfl ?_
      refine r_indexS sl_46 sz_43 rfl rfl rfl rfl (by omega) ?_
      refine r_fieldAddr fd_43_0 rfl rfl rfl ?_
      refine r_load ag_41 rfl rfl rfl (by first | exact .h .z | exact .h (.s .z) | exact .h (.s (.s .z)) | exact .h (.s (.s (.s .z))) | exact .h (.s (.s (.s (.s .z)))) | exact .h (.s (.s (.s (.s (.s .z))))) | exact .h (.s (.s (.s (.s (.s (.s .z)))))) | exact .h (.s (.s (.s (.s (.s (.s (.s .z))))))) | exact .h (.s (.s (.s (.s (.s (.s (.s (.s .z)))))))) | exact .x .z | exact .x (.s .z) | exact .x (.s (.s .z)) | exact .x (.s (.s (.s .z))) | exact .x (.s (.s (.s (.s .z)))) | exact .x (.s (.s (.s (.s (.s .z))))) | exact .x (.s (.s (.s (.s (.s (.s .z))))))) (by first | rfl) ?_
      refine r_move rfl rfl rfl ?_
      refine r_convIF ⟨_, un_3⟩ un_41 rfl rfl rfl ?_
      refine s_fcmp rfl rfl rfl rfl (fun _ _ => run_fne) (fun h19 => ?_) (fun h19 => ?_)
      · first
        | (exfalso; omega)
        |
          refine R_nil ?_
          refine K_tn ?_
          refine K_cond_t rfl ?_
          refine K_seq ?_
          refine R_region ?_
          refine r_assign rfl rfl rfl ?_
          refine R_nil ?_
          refine K_tn ?_
          refine K_ret ?_
          refine K_tr ?_
          refine K_br ?_
          refine K_tr ?_
          refine K_tr ?_
          refine K_br ?_
          refine K_tr ?_
          refine K_done (H' := []) rfl rfl (.s (.tmp rfl) .z) (by repeat (first | exact .z | apply Rems.s Rem.z | apply Rems.s (Rem.s Rem.z) | apply Rems.s (Rem.s (Rem.s Rem.z)) | apply Rems.s (Rem.s (Rem.s (Rem.s Rem.z))) | apply Rems.s (Rem.s (Rem.s (Rem.s (Rem.s Rem.z)))) | apply Rems.s (Rem.s (Rem.s (Rem.s (Rem.s (Rem.s Rem.z))))) | apply Rems.s (Rem.s (Rem.s (Rem.s (Rem.s (Rem.s (Rem.s Rem.z)))))) | apply Rems.s (Rem.s (Rem.s (Rem.s (Rem.s (Rem.s (Rem.s (Rem.s Rem.z))))))) | apply Rems.s (Rem.s (Rem.s (Rem.s (Rem.s (Rem.s (Rem.s (Rem.s (Rem.s Rem.z)))))))) | apply Rems.s (Rem.s (Rem.s (Rem.s (Rem.s (Rem.s (Rem.s (Rem.s (Rem.s (Rem.s Rem.z))))))))))) ?_
          refine ⟨?_, rfl⟩
          rfl
      · first
        | (exfalso; omega)
        |
          refine R_nil ?_
          refine K_tn ?_
          refine K_cond_f rfl ?_
          refine K_skip ?_
          refine K_tn ?_
          refine K_seq ?_
          refine R_region ?_
          refine r_move rfl rfl rfl ?_
          first | refine r_addN rfl rfl rfl rfl (i64K (by omega) (by omega)) ?_ | refine r_add rfl rfl rfl rfl (i64K (by omega) (by omega)) ?_
          refine r_assign rfl rfl rfl ?_
          refine R_nil ?_
          refine K_tn ?_
          refine K_seq ?_
          refine K_seq ?_
          refine R_region ?_
          refine r_move rfl rfl rfl ?_
          refine r_move rfl rfl rfl ?_
          refine r_indexS sl_46 sz_43 rfl rfl rfl rfl (by omega) ?_
          refine r_fieldAddr fd_43_1 rfl rfl rfl ?_
          refine r_load ag_41 rfl rfl rfl (by first | exact .h .z | exact .h (.s .z) | exact .h (.s (.s .z)) | exact .h (.s (.s (.s .z))) | exact .h (.s (.s (.s (.s .z)))) | exact .h (.s (.s (.s (.s (.s .z))))) | exact .h (.s (.s (.s (.s (.s (.s .z)))))) | exact .h (.s (.s (.s (.s (.s (.s (.s .z))))))) | exact .h (.s (.s (.s (.s (.s (.s (.s (.s .z)))))))) | exact .x .z | exact .x (.s .z) | exact .x (.s (.s .z)) | exact .x (.s (.s (.s .z))) | exact .x (.s (.s (.s (.s .z)))) | exact .x (.s (.s (.s (.s (.s .z))))) | exact .x (.s (.s (.s (.s (.s (.s .z))))))) (by first | rfl) ?_
          refine r_move rfl rfl rfl ?_
          refine r_convIF ⟨_, un_3⟩ un_41 rfl rfl rfl ?_
          refine s_fcmp rfl rfl rfl rfl (fun _ _ => run_fne) (fun h29 => ?_) (fun h29 => ?_)
          · first
            | (exfalso; omega)
            |
              refine R_nil ?_
              refine K_tn ?_
              refine K_cond_t rfl ?_
              refine K_seq ?_
              refine R_region ?_
              refine r_assign rfl rfl rfl ?_
              refine R_nil ?_
              refine K_tn ?_
              refine K_ret ?_
              refine K_tr ?_
              refine K_br ?_
              refine K_tr ?_
              refine K_tr ?_
              refine K_br ?_
              refine K_tr ?_
              refine K_done (H' := []) rfl rfl (.s (.tmp rfl) .z) (by repeat (first | exact .z | apply Rems.s Rem.z | apply Rems.s (Rem.s Rem.z) | apply Rems.s (Rem.s (Rem.s Rem.z)) | apply Rems.s (Rem.s (Rem.s (Rem.s Rem.z))) | apply Rems.s (Rem.s (Rem.s (Rem.s (Rem.s Rem.z)))) | apply Rems.s (Rem.s (Rem.s (Rem.s (Rem.s (Rem.s Rem.z))))) | apply Rems.s (Rem.s (Rem.s (Rem.s (Rem.s (Rem.s (Rem.s Rem.z)))))) | apply Rems.s (Rem.s (Rem.s (Rem.s (Rem.s (Rem.s (Rem.s (Rem.s Rem.z))))))) | apply Rems.s (Rem.s (Rem.s (Rem.s (Rem.s (Rem.s (Rem.s (Rem.s (Rem.s Rem.z)))))))) | apply Rems.s (Rem.s (Rem.s (Rem.s (Rem.s (Rem.s (Rem.s (Rem.s (Rem.s (Rem.s Rem.z))))))))))) ?_
              refine ⟨?_, rfl⟩
              rfl
          · first
            | (exfalso; omega)
            |
              refine R_nil ?_
              refine K_tn ?_
              refine K_cond_f rfl ?_
              refine K_skip ?_
              refine K_tn ?_
              refine K_seq ?_
              refine R_region ?_
              refine r_move rfl rfl rfl ?_
              first | refine r_addN rfl rfl rfl rfl (i64K (by omega) (by omega)) ?_ | refine r_add rfl rfl rfl rfl (i64K (by omega) (by omega)) ?_
              refine r_assign rfl rfl rfl ?_
              refine R_nil ?_
              refine K_tn ?_
              refine K_seq ?_
              refine K_seq ?_
              refine R_region ?_
              refine r_move rfl rfl rfl ?_
              refine r_move rfl rfl rfl ?_
              refine r_indexS sl_46 sz_43 rfl rfl rfl rfl (by omega) ?_
              refine r_fieldAddr fd_43_2 rfl rfl rfl ?_
              refine r_load ag_41 rfl rfl rfl (by first | exact .h .z | exact .h (.s .z) | exact .h (.s (.s .z)) | exact .h (.s (.s (.s .z))) | exact .h (.s (.s (.s (.s .z)))) | exact .h (.s (.s (.s (.s (.s .z))))) | exact .h (.s (.s (.s (.s (.s (.s .z)))))) | exact .h (.s (.s (.s (.s (.s (.s (.s .z))))))) | exact .h (.s (.s (.s (.s (.s (.s (.s (.s .z)))))))) | exact .x .z | exact .x (.s .z) | exact .x (.s (.s .z)) | exact .x (.s (.s (.s .z))) | exact .x (.s (.s (.s (.s .z)))) | exact .x (.s (.s (.s (.s (.s .z))))) | exact .x (.s (.s (.s (.s (.s (.s .z))))))) (by first | rfl) ?_
              refine r_move rfl rfl rfl ?_
              refine r_convIF ⟨_, un_3⟩ un_41 rfl rfl rfl ?_
              refine s_fcmp rfl rfl rfl rfl (fun _ _ => run_fne) (fun h39 => ?_) (fun h39 => ?_)
              · first
                | (exfalso; omega)
                |
                  refine R_nil ?_
                  refine K_tn ?_
                  refine K_cond_t rfl ?_
                  refine K_seq ?_
                  refine R_region ?_
                  refine r_assign rfl rfl rfl ?_
                  refine R_nil ?_
                  refine K_tn ?_
                  refine K_ret ?_
                  refine K_tr ?_
                  refine K_br ?_
                  refine K_tr ?_
                  refine K_tr ?_
                  refine K_br ?_
                  refine K_tr ?_
                  refine K_done (H' := []) rfl rfl (.s (.tmp rfl) .z) (by repeat (first | exact .z | apply Rems.s Rem.z | apply Rems.s (Rem.s Rem.z) | apply Rems.s (Rem.s (Rem.s Rem.z)) | apply Rems.s (Rem.s (Rem.s (Rem.s Rem.z))) | apply Rems.s (Rem.s (Rem.s (Rem.s (Rem.s Rem.z)))) | apply Rems.s (Rem.s (Rem.s (Rem.s (Rem.s (Rem.s Rem.z))))) | apply Rems.s (Rem.s (Rem.s (Rem.s (Rem.s (Rem.s (Rem.s Rem.z)))))) | apply Rems.s (Rem.s (Rem.s (Rem.s (Rem.s (Rem.s (Rem.s (Rem.s Rem.z))))))) | apply Rems.s (Rem.s (Rem.s (Rem.s (Rem.s (Rem.s (Rem.s (Rem.s (Rem.s Rem.z)))))))) | apply Rems.s (Rem.s (Rem.s (Rem.s (Rem.s (Rem.s (Rem.s (Rem.s (Rem.s (Rem.s Rem.z))))))))))) ?_
                  refine ⟨?_, rfl⟩
                  rfl
              · first
                | (exfalso; omega)
                |
                  refine R_nil ?_
                  refine K_tn ?_
                  refine K_cond_f rfl ?_
                  refine K_skip ?_
                  refine K_tn ?_
                  refine R_region ?_
                  refine r_move rfl rfl rfl ?_
                  first | refine r_addN rfl rfl rfl rfl (i64K (by omega) (by omega)) ?_ | refine r_add rfl rfl rfl rfl (i64K (by omega) (by omega)) ?_
                  refine r_assign rfl rfl rfl ?_
                  refine R_nil ?_
                  refine K_bn ?_
                  refine K_tn ?_
                  refine R_region ?_
                  refine r_move rfl rfl rfl ?_
                  first | refine r_addN rfl rfl rfl rfl (i64K (by omega) (by omega)) ?_ | refine r_add rfl rfl rfl rfl (i64K (by omega) (by omega)) ?_
                  refine r_assign rfl rfl rfl ?_
                  refine R_nil ?_
                  refine K_tn ?_
                  exact K_again 0 (by (exfalso; omega)) (by omega) (by repeat (first | exact trivial | refine ⟨rfl, ?_⟩)) (by repeat (first | exact .z | apply Rems.s Rem.z | apply Rems.s (Rem.s Rem.z) | apply Rems.s (Rem.s (Rem.s Rem.z)) | apply Rems.s (Rem.s (Rem.s (Rem.s Rem.z))) | apply Rems.s (Rem.s (Rem.s (Rem.s (Rem.s Rem.z)))) | apply Rems.s (Rem.s (Rem.s (Rem.s (Rem.s (Rem.s Rem.z))))) | apply Rems.s (Rem.s (Rem.s (Rem.s (Rem.s (Rem.s (Rem.s Rem.z)))))) | apply Rems.s (Rem.s (Rem.s (Rem.s (Rem.s (Rem.s (Rem.s (Rem.s Rem.z))))))) | apply Rems.s (Rem.s (Rem.s (Rem.s (Rem.s (Rem.s (Rem.s (Rem.s (Rem.s Rem.z)))))))) | apply Rems.s (Rem.s (Rem.s (Rem.s (Rem.s (Rem.s (Rem.s (Rem.s (Rem.s (Rem.s Rem.z)))))))))))
  · first
    | (exfalso; omega)
    |
      refine R_nil ?_
      refine K_tn ?_
      refine K_cond_f rfl ?_
      refine K_exit ?_
      refine K_te ?_
      refine K_te ?_
      refine K_be ?_
      refine K_tn ?_
      refine K_seq ?_
      refine R_region ?_
      refine r_move rfl rfl rfl ?_
      refine r_assign rfl rfl rfl ?_
      refine R_nil ?_
      refine K_tn ?_
      refine K_ret ?_
      refine K_done (H' := []) rfl rfl (.s (.tmp rfl) .z) (by repeat (first | exact .z | apply Rems.s Rem.z | apply Rems.s (Rem.s Rem.z) | apply Rems.s (Rem.s (Rem.s Rem.z)) | apply Rems.s (Rem.s (Rem.s (Rem.s Rem.z))) | apply Rems.s (Rem.s (Rem.s (Rem.s (Rem.s Rem.z)))) | apply Rems.s (Rem.s (Rem.s (Rem.s (Rem.s (Rem.s Rem.z))))) | apply Rems.s (Rem.s (Rem.s (Rem.s (Rem.s (Rem.s (Rem.s Rem.z)))))) | apply Rems.s (Rem.s (Rem.s (Rem.s (Rem.s (Rem.s (Rem.s (Rem.s Rem.z))))))) | apply Rems.s (Rem.s (Rem.s (Rem.s (Rem.s (Rem.s (Rem.s (Rem.s (Rem.s Rem.z)))))))) | apply Rems.s (Rem.s (Rem.s (Rem.s (Rem.s (Rem.s (Rem.s (Rem.s (Rem.s (Rem.s Rem.z))))))))))) ?_
      refine ⟨?_, rfl⟩
      rfl

set_option maxRecDepth 20000 in
theorem eqLookS_nil (c c2 : Nat) (o o2 : Option Addr) : SpecV Try.prog 37 [.slice o 0 c, .slice o2 0 c2] [] (.bool true) := by
  refine spec_of Try.func37 rfl Try.ntmps37 rfl (fun w0 => ?_)
  refine K_seq ?_
  refine R_region ?_
  refine r_assign rfl rfl rfl ?_
  refine R_nil ?_
  refine K_tn ?_
  refine K_seq ?_
  refine K_seq ?_
  refine R_region ?_
  refine r_move rfl rfl rfl ?_
  refine r_lenS sl_46 rfl rfl rfl ?_
  refine r_move rfl rfl rfl ?_
  refine r_lenS sl_46 rfl rfl rfl ?_
  refine s_neq rfl rfl rfl rfl (fun h10 => ?_) (fun h10 => ?_)
  · first
    | (exfalso; first | omega | (simp_all; done))
    |
      refine R_nil ?_
      refine K_tn ?_
      refine K_cond_t rfl ?_
      refine K_seq ?_
      refine R_region ?_
      refine r_assign rfl rfl rfl ?_
      refine R_nil ?_
      refine K_tn ?_
      refine K_ret ?_
      refine K_tr ?_
      refine K_done (H' := []) rfl rfl (.s (.tmp rfl) .z) (by repeat (first | exact .z | apply Rems.s Rem.z | apply Rems.s (Rem.s Rem.z) | apply Rems.s (Rem.s (Rem.s Rem.z)) | apply Rems.s (Rem.s (Rem.s (Rem.s Rem.z))) | apply Rems.s (Rem.s (Rem.s (Rem.s (Rem.s Rem.z)))) | apply Rems.s (Rem.s (Rem.s (Rem.s (Rem.s (Rem.s Rem.z))))) | apply Rems.s (Rem.s (Rem.s (Rem.s (Rem.s (Rem.s (Rem.s Rem.z)))))) | apply Rems.s (Rem.s (Rem.s (Rem.s (Rem.s (Rem.s (Rem.s (Rem.s Rem.z))))))) | apply Rems.s (Rem.s (Rem.s (Rem.s (Rem.s (Rem.s (Rem.s (Rem.s (Rem.s Rem.z)))))))) | apply Rems.s (Rem.s (Rem.s (Rem.s (Rem.s (Rem.s (Rem.s (Rem.s (Rem.s (Rem.s Rem.z))))))))))) ?_
      refine ⟨?_, rfl⟩
      rfl
  · first
    | (exfalso; first | omega | (simp_all; done))
    |
      refine R_nil ?_
      refine K_tn ?_
      refine K_cond_f rfl ?_
      refine K_skip ?_
      refine K_tn ?_
      refine K_seq ?_
      refine K_seq ?_
      refine R_region ?_
      refine r_assign rfl rfl rfl ?_
      refine R_nil ?_
      refine K_tn ?_
      refine K_block ?_
      refine K_loop (fun (_ : Nat) => True) (fun _ => [(0, .slice o 0 c), (1, .slice o2 0 c2), (5, .int .i64 0)]) (fun _ => []) (fun k => k) 0 (by trivial) (by repeat (first | exact trivial | refine ⟨rfl, ?_⟩)) (by repeat (first | exact .z | apply Rems.s Rem.z | apply Rems.s (Rem.s Rem.z) | apply Rems.s (Rem.s (Rem.s Rem.z)) | apply Rems.s (Rem.s (Rem.s (Rem.s Rem.z))) | apply Rems.s (Rem.s (Rem.s (Rem.s (Rem.s Rem.z)))) | apply Rems.s (Rem.s (Rem.s (Rem.s (Rem.s (Rem.s Rem.z))))) | apply Rems.s (Rem.s (Rem.s (Rem.s (Rem.s (Rem.s (Rem.s Rem.z)))))) | apply Rems.s (Rem.s (Rem.s (Rem.s (Rem.s (Rem.s (Rem.s (Rem.s Rem.z))))))) | apply Rems.s (Rem.s (Rem.s (Rem.s (Rem.s (Rem.s (Rem.s (Rem.s (Rem.s Rem.z)))))))) | apply Rems.s (Rem.s (Rem.s (Rem.s (Rem.s (Rem.s (Rem.s (Rem.s (Rem.s (Rem.s Rem.z))))))))))) (fun k hp => ?_)
      refine K_seq ?_
      refine K_seq ?_
      refine R_region ?_
      refine r_move rfl rfl rfl ?_
      refine r_move rfl rfl rfl ?_
      refine r_lenS sl_46 rfl rfl rfl ?_
      refine s_lss rfl rfl rfl rfl (fun h14 => ?_) (fun h14 => ?_)
      · first
        | (exfalso; first | omega | (simp_all; done))
        |
          refine R_nil ?_
          refine K_tn ?_
          refine K_cond_t rfl ?_
          refine K_skip ?_
          refine K_tn ?_
          refine K_seq ?_
          refine K_block ?_
          refine K_seq ?_
          refine R_drawAll mixed (by kernel_rfl) ?_
          refine q_pure rfl rfl (p_move rfl) ?_
          refine q_pure rfl rfl (p_move rfl) ?_
          refine q_pure rfl rfl (p_indexS sl_46 sz_43 rfl rfl (by omega)) ?_
          refine q_pure rfl rfl (p_loadA ag_43 sz_43 rfl (by first | exact .h .z | exact .h (.s .z) | exact .h (.s (.s .z)) | exact .h (.s (.s (.s .z))) | exact .h (.s (.s (.s (.s .z)))) | exact .h (.s (.s (.s (.s (.s .z))))) | exact .h (.s (.s (.s (.s (.s (.s .z)))))) | exact .h (.s (.s (.s (.s (.s (.s (.s .z))))))) | exact .h (.s (.s (.s (.s (.s (.s (.s (.s .z)))))))) | exact .x .z | exact .x (.s .z) | exact .x (.s (.s .z)) | exact .x (.s (.s (.s .z))) | exact .x (.s (.s (.s (.s .z)))) | exact .x (.s (.s (.s (.s (.s .z))))) | exact .x (.s (.s (.s (.s (.s (.s .z))))))) (by first | rfl)) ?_
          refine q_pure rfl rfl (p_move rfl) ?_
          refine q_pure rfl rfl (p_move rfl) ?_
          refine q_pure rfl rfl (p_indexS sl_46 sz_43 rfl rfl (by omega)) ?_
          refine q_pure rfl rfl (p_loadA ag_43 sz_43 rfl (by first | exact .h .z | exact .h (.s .z) | exact .h (.s (.s .z)) | exact .h (.s (.s (.s .z))) | exact .h (.s (.s (.s (.s .z)))) | exact .h (.s (.s (.s (.s (.s .z))))) | exact .h (.s (.s (.s (.s (.s (.s .z)))))) | exact .h (.s (.s (.s (.s (.s (.s (.s .z))))))) | exact .h (.s (.s (.s (.s (.s (.s (.s (.s .z)))))))) | exact .x .z | exact .x (.s .z) | exact .x (.s (.s .z)) | exact .x (.s (.s (.s .z))) | exact .x (.s (.s (.s (.s .z)))) | exact .x (.s (.s (.s (.s (.s .z))))) | exact .x (.s (.s (.s (.s (.s (.s .z))))))) (by first | rfl)) ?_
          refine q_callV cb_36 rfl rfl rfl rfl rfl (absurd rfl rfl) (by repeat (first | exact .z | refine .s (.h .z) ?_ | refine .s (.h (.s .z)) ?_ | refine .s (.h (.s (.s .z))) ?_ | refine .s (.h (.s (.s (.s .z)))) ?_ | refine .s (.h (.s (.s (.s (.s .z))))) ?_ | refine .s (.h (.s (.s (.s (.s (.s .z)))))) ?_ | refine .s (.h (.s (.s (.s (.s (.s (.s .z))))))) ?_ | refine .s (.h (.s (.s (.s (.s (.s (.s (.s .z)))))))) ?_ | refine .s (.h (.s (.s (.s (.s (.s (.s (.s (.s .z))))))))) ?_ | refine .s (.x .z) ?_ | refine .s (.x (.s .z)) ?_ | refine .s (.x (.s (.s .z))) ?_ | refine .s (.x (.s (.s (.s .z)))) ?_ | refine .s (.x (.s (.s (.s (.s .z))))) ?_ | refine .s (.x (.s (.s (.s (.s (.s .z)))))) ?_ | refine .s (.x (.s (.s (.s (.s (.s (.s .z))))))) ?_)) ?_
          refine KQ_split (d := 25) rfl (fun h25 => ?_) (fun h25 => ?_)
          · first
            | (exfalso; first | omega | (simp_all; done))
            |
              refine q_pure rfl rfl (p_not rfl) ?_
              refine q_nil ?_
              refine K_tn ?_
              refine K_cond_f rfl ?_
              refine K_skip ?_
              refine K_bn ?_
              refine K_tn ?_
              refine R_region ?_
              refine r_move rfl rfl rfl ?_
              first | refine r_addN rfl rfl rfl rfl (i64K (by omega) (by omega)) ?_ | refine r_add rfl rfl rfl rfl (i64K (by omega) (by omega)) ?_
              refine r_assign rfl rfl rfl ?_
              refine R_nil ?_
              refine K_tn ?_
              exact K_again 0 (by (exfalso; omega)) (by omega) (by repeat (first | exact trivial | refine ⟨rfl, ?_⟩)) (by repeat (first | exact .z | apply Rems.s Rem.z | apply Rems.s (Rem.s Rem.z) | apply Rems.s (Rem.s (Rem.s Rem.z)) | apply Rems.s (Rem.s (Rem.s (Rem.s Rem.z))) | apply Rems.s (Rem.s (Rem.s (Rem.s (Rem.s Rem.z)))) | apply Rems.s (Rem.s (Rem.s (Rem.s (Rem.s (Rem.s Rem.z))))) | apply Rems.s (Rem.s (Rem.s (Rem.s (Rem.s (Rem.s (Rem.s Rem.z)))))) | apply Rems.s (Rem.s (Rem.s (Rem.s (Rem.s (Rem.s (Rem.s (Rem.s Rem.z))))))) | apply Rems.s (Rem.s (Rem.s (Rem.s (Rem.s (Rem.s (Rem.s (Rem.s (Rem.s Rem.z)))))))) | apply Rems.s (Rem.s (Rem.s (Rem.s (Rem.s (Rem.s (Rem.s (Rem.s (Rem.s (Rem.s Rem.z)))))))))))
          · first
            | (exfalso; first | omega | (simp_all; done))
            |
              refine q_pure rfl rfl (p_not rfl) ?_
              refine q_nil ?_
              refine K_tn ?_
              refine K_cond_t rfl ?_
              refine K_seq ?_
              refine R_region ?_
              refine r_assign rfl rfl rfl ?_
              refine R_nil ?_
              refine K_tn ?_
              refine K_ret ?_
              refine K_br ?_
              refine K_tr ?_
              refine K_tr ?_
              refine K_br ?_
              refine K_tr ?_
              refine K_done (H' := []) rfl rfl (.s (.tmp rfl) .z) (by repeat (first | exact .z | apply Rems.s Rem.z | apply Rems.s (Rem.s Rem.z) | apply Rems.s (Rem.s (Rem.s Rem.z)) | apply Rems.s (Rem.s (Rem.s (Rem.s Rem.z))) | apply Rems.s (Rem.s (Rem.s (Rem.s (Rem.s Rem.z)))) | apply Rems.s (Rem.s (Rem.s (Rem.s (Rem.s (Rem.s Rem.z))))) | apply Rems.s (Rem.s (Rem.s (Rem.s (Rem.s (Rem.s (Rem.s Rem.z)))))) | apply Rems.s (Rem.s (Rem.s (Rem.s (Rem.s (Rem.s (Rem.s (Rem.s Rem.z))))))) | apply Rems.s (Rem.s (Rem.s (Rem.s (Rem.s (Rem.s (Rem.s (Rem.s (Rem.s Rem.z)))))))) | apply Rems.s (Rem.s (Rem.s (Rem.s (Rem.s (Rem.s (Rem.s (Rem.s (Rem.s (Rem.s Rem.z))))))))))) ?_
              refine ⟨?_, rfl⟩
              rfl
      · first
        | (exfalso; first | omega | (simp_all; done))
        |
          refine R_nil ?_
          refine K_tn ?_
          refine K_cond_f rfl ?_
          refine K_exit ?_
          refine K_te ?_
          refine K_te ?_
          refine K_be ?_
          refine K_tn ?_
          refine K_seq ?_
          refine R_region ?_
          refine r_assign rfl rfl rfl ?_
          refine R_nil ?_
          refine K_tn ?_
          refine K_ret ?_
          refine K_done (H' := []) rfl rfl (.s (.tmp rfl) .z) (by repeat (first | exact .z | apply Rems.s Rem.z | apply Rems.s (Rem.s Rem.z) | apply Rems.s (Rem.s (Rem.s Rem.z)) | apply Rems.s (Rem.s (Rem.s (Rem.s Rem.z))) | apply Rems.s (Rem.s (Rem.s (Rem.s (Rem.s Rem.z)))) | apply Rems.s (Rem.s (Rem.s (Rem.s (Rem.s (Rem.s Rem.z))))) | apply Rems.s (Rem.s (Rem.s (Rem.s (Rem.s (Rem.s (Rem.s Rem.z)))))) | apply Rems.s (Rem.s (Rem.s (Rem.s (Rem.s (Rem.s (Rem.s (Rem.s Rem.z))))))) | apply Rems.s (Rem.s (Rem.s (Rem.s (Rem.s (Rem.s (Rem.s (Rem.s (Rem.s Rem.z)))))))) | apply Rems.s (Rem.s (Rem.s (Rem.s (Rem.s (Rem.s (Rem.s (Rem.s (Rem.s (Rem.s Rem.z))))))))))) ?_
          refine ⟨?_, rfl⟩
          rfl

set_option maxRecDepth 20000 in
set_option maxHeartbeats 1600000 in
theorem law_MM_ok (a1 : Option Addr) (cap1 : Nat) (es : List Lk) (hlen1 : es.length ≤ 9223372036854775807) (a2 : Option Addr) (cap2 : Nat) (ls : List Lk) (hlen2 : ls.length ≤ 9223372036854775807) (X1 X2 : Hp) (hto1 : es.length ≤ 1048576 → Go.Sl.Spec Try.prog 34 [.slice a1 es.length cap1] X1 [] (RowG lk es 3)) (hto2 : ls.length ≤ 1048576 → Go.Sl.Spec Try.prog 34 [.slice a2 ls.length cap2] X2 [] (RowG lk ls 3)) (hok : lkCode es ls = 0) : SpecV Try.prog 9 [.slice a1 es.length cap1, .slice a2 ls.length cap2] (X1 ++ X2) (.bool true) := by
  refine spec_of Try.func9 rfl Try.ntmps9 rfl (fun w0 => ?_)
  have hsz1 := szL_iff (left := 1048576) (len := es.length) (by decide)
  have hse1 := fun h => szL_eq (left := 1048576) (len := es.length) h
  have hsz2 := fun h => szL_iff (left := szL 1048576 es.length) (len := ls.length) h
  have hml := mapG_len (mmF es ls) es.length
  refine K_seq ?_
  refine R_region ?_
  refine r_assign rfl rfl rfl ?_
  refine R_nil ?_
  refine K_tn ?_
  refine K_seq ?_
  refine R_region ?_
  refine r_assign rfl rfl rfl ?_
  refine R_nil ?_
  refine K_tn ?_
  refine K_seq ?_
  refine R_region ?_
  refine r_move rfl rfl rfl ?_
  refine r_move rfl rfl rfl ?_
  refine r_callV cb_32 rfl rfl rfl rfl rfl (szLookS _ _ _ _ (by decide) (by decide) hlen1) (by first | exact insSelf _ _ | exact insApp1 _ _ _ | exact insApp2 _ _ _ | (repeat (first | exact .z | refine .s (.h .z) ?_ | refine .s (.h (.s .z)) ?_ | refine .s (.h (.s (.s .z))) ?_ | refine .s (.h (.s (.s (.s .z)))) ?_ | refine .s (.h (.s (.s (.s (.s .z))))) ?_ | refine .s (.h (.s (.s (.s (.s (.s .z)))))) ?_ | refine .s (.h (.s (.s (.s (.s (.s (.s .z))))))) ?_ | refine .s (.h (.s (.s (.s (.s (.s (.s (.s .z)))))))) ?_ | refine .s (.h (.s (.s (.s (.s (.s (.s (.s (.s .z))))))))) ?_ | refine .s (.x .z) ?_ | refine .s (.x (.s .z)) ?_ | refine .s (.x (.s (.s .z))) ?_ | refine .s (.x (.s (.s (.s .z)))) ?_ | refine .s (.x (.s (.s (.s (.s .z))))) ?_ | refine .s (.x (.s (.s (.s (.s (.s .z)))))) ?_ | refine .s (.x (.s (.s (.s (.s (.s (.s .z))))))) ?_))) ?_
  refine r_assign rfl rfl rfl ?_
  refine R_nil ?_
  refine K_tn ?_
  refine K_seq ?_
  refine K_seq ?_
  refine R_region ?_
  refine r_move rfl rfl rfl ?_
  refine s_lss rfl rfl rfl rfl (fun h21 => ?_) (fun h21 => ?_)
  · first
    | (exfalso; first | omega | (have := hse1 (by omega); have := hsz2 (by omega); omega) | (simp_all; done))
    |
      refine R_nil ?_
      refine K_tn ?_
      refine K_cond_t rfl ?_
      refine K_seq ?_
      refine R_region ?_
      refine r_assign rfl rfl rfl ?_
      refine R_nil ?_
      refine K_tn ?_
      refine K_ret ?_
      refine K_tr ?_
      refine K_done (H' := []) rfl rfl (.s (.tmp rfl) .z) (by repeat (first | exact .z | apply Rems.s Rem.z | apply Rems.s (Rem.s Rem.z) | apply Rems.s (Rem.s (Rem.s Rem.z)) | apply Rems.s (Rem.s (Rem.s (Rem.s Rem.z))) | apply Rems.s (Rem.s (Rem.s (Rem.s (Rem.s Rem.z)))) | apply Rems.s (Rem.s (Rem.s (Rem.s (Rem.s (Rem.s Rem.z))))) | apply Rems.s (Rem.s (Rem.s (Rem.s (Rem.s (Rem.s (Rem.s Rem.z)))))) | apply Rems.s (Rem.s (Rem.s (Rem.s (Rem.s (Rem.s (Rem.s (Rem.s Rem.z))))))) | apply Rems.s (Rem.s (Rem.s (Rem.s (Rem.s (Rem.s (Rem.s (Rem.s (Rem.s Rem.z)))))))) | apply Rems.s (Rem.s (Rem.s (Rem.s (Rem.s (Rem.s (Rem.s (Rem.s (Rem.s (Rem.s Rem.z))))))))))) ?_
      refine ⟨?_, rfl⟩
      rfl
  · first
    | (exfalso; first | omega | (have := hse1 (by omega); have := hsz2 (by omega); omega) | (simp_all; done))
    |
      refine R_nil ?_
      refine K_tn ?_
      refine K_cond_f rfl ?_
      refine K_skip ?_
      refine K_tn ?_
      refine K_seq ?_
      refine R_region ?_
      refine r_move rfl rfl rfl ?_
      refine r_move rfl rfl rfl ?_
      refine r_callV cb_32 rfl rfl rfl rfl rfl (szLookS _ _ _ _ (by omega) (by have := hse1 (by omega); omega) hlen2) (by first | exact insSelf _ _ | exact insApp1 _ _ _ | exact insApp2 _ _ _ | (repeat (first | exact .z | refine .s (.h .z) ?_ | refine .s (.h (.s .z)) ?_ | refine .s (.h (.s (.s .z))) ?_ | refine .s (.h (.s (.s (.s .z)))) ?_ | refine .s (.h (.s (.s (.s (.s .z))))) ?_ | refine .s (.h (.s (.s (.s (.s (.s .z)))))) ?_ | refine .s (.h (.s (.s (.s (.s (.s (.s .z))))))) ?_ | refine .s (.h (.s (.s (.s (.s (.s (.s (.s .z)))))))) ?_ | refine .s (.h (.s (.s (.s (.s (.s (.s (.s (.s .z))))))))) ?_ | refine .s (.x .z) ?_ | refine .s (.x (.s .z)) ?_ | refine .s (.x (.s (.s .z))) ?_ | refine .s (.x (.s (.s (.s .z)))) ?_ | refine .s (.x (.s (.s (.s (.s .z))))) ?_ | refine .s (.x (.s (.s (.s (.s (.s .z)))))) ?_ | refine .s (.x (.s (.s (.s (.s (.s (.s .z))))))) ?_))) ?_
      refine r_assign rfl rfl rfl ?_
      refine R_nil ?_
      refine K_tn ?_
      refine K_seq ?_
      refine K_seq ?_
      refine R_region ?_
      refine r_move rfl rfl rfl ?_
      refine s_lss rfl rfl rfl rfl (fun h26 => ?_) (fun h26 => ?_)
      · first
        | (exfalso; first | omega | (have := hse1 (by omega); have := hsz2 (by omega); omega) | (simp_all; done))
        |
          refine R_nil ?_
          refine K_tn ?_
          refine K_cond_t rfl ?_
          refine K_seq ?_
          refine R_region ?_
          refine r_assign rfl rfl rfl ?_
          refine R_nil ?_
          refine K_tn ?_
          refine K_ret ?_
          refine K_tr ?_
          refine K_done (H' := []) rfl rfl (.s (.tmp rfl) .z) (by repeat (first | exact .z | apply Rems.s Rem.z | apply Rems.s (Rem.s Rem.z) | apply Rems.s (Rem.s (Rem.s Rem.z)) | apply Rems.s (Rem.s (Rem.s (Rem.s Rem.z))) | apply Rems.s (Rem.s (Rem.s (Rem.s (Rem.s Rem.z)))) | apply Rems.s (Rem.s (Rem.s (Rem.s (Rem.s (Rem.s Rem.z))))) | apply Rems.s (Rem.s (Rem.s (Rem.s (Rem.s (Rem.s (Rem.s Rem.z)))))) | apply Rems.s (Rem.s (Rem.s (Rem.s (Rem.s (Rem.s (Rem.s (Rem.s Rem.z))))))) | apply Rems.s (Rem.s (Rem.s (Rem.s (Rem.s (Rem.s (Rem.s (Rem.s (Rem.s Rem.z)))))))) | apply Rems.s (Rem.s (Rem.s (Rem.s (Rem.s (Rem.s (Rem.s (Rem.s (Rem.s (Rem.s Rem.z))))))))))) ?_
          refine ⟨?_, rfl⟩
          rfl
      · first
        | (exfalso; first | omega | (have := hse1 (by omega); have := hsz2 (by omega); omega) | (simp_all; done))
        |
          refine R_nil ?_
          refine K_tn ?_
          refine K_cond_f rfl ?_
          refine K_skip ?_
          refine K_tn ?_
          refine K_seq ?_
          refine R_region ?_
          refine r_move rfl rfl rfl ?_
          refine r_callR cb_34 rfl rfl rfl rfl rfl (hto1 (by omega)) (by first | exact insSelf _ _ | exact insApp1 _ _ _ | exact insApp2 _ _ _ | (repeat (first | exact .z | refine .s (.h .z) ?_ | refine .s (.h (.s .z)) ?_ | refine .s (.h (.s (.s .z))) ?_ | refine .s (.h (.s (.s (.s .z)))) ?_ | refine .s (.h (.s (.s (.s (.s .z))))) ?_ | refine .s (.h (.s (.s (.s (.s (.s .z)))))) ?_ | refine .s (.h (.s (.s (.s (.s (.s (.s .z))))))) ?_ | refine .s (.h (.s (.s (.s (.s (.s (.s (.s .z)))))))) ?_ | refine .s (.h (.s (.s (.s (.s (.s (.s (.s (.s .z))))))))) ?_ | refine .s (.x .z) ?_ | refine .s (.x (.s .z)) ?_ | refine .s (.x (.s (.s .z))) ?_ | refine .s (.x (.s (.s (.s .z)))) ?_ | refine .s (.x (.s (.s (.s (.s .z))))) ?_ | refine .s (.x (.s (.s (.s (.s (.s .z)))))) ?_ | refine .s (.x (.s (.s (.s (.s (.s (.s .z))))))) ?_))) ?_
          rintro _ _ ⟨b29, cap29, junk29, u29, rfl, hj29, hc29, rfl⟩
          refine r_move rfl rfl rfl ?_
          refine r_callR cb_34 rfl rfl rfl rfl rfl (hto2 (by have := hse1 (by omega); have := hsz2 (by omega); omega)) (by first | exact insSelf _ _ | exact insApp1 _ _ _ | exact insApp2 _ _ _ | (repeat (first | exact .z | refine .s (.h .z) ?_ | refine .s (.h (.s .z)) ?_ | refine .s (.h (.s (.s .z))) ?_ | refine .s (.h (.s (.s (.s .z)))) ?_ | refine .s (.h (.s (.s (.s (.s .z))))) ?_ | refine .s (.h (.s (.s (.s (.s (.s .z)))))) ?_ | refine .s (.h (.s (.s (.s (.s (.s (.s .z))))))) ?_ | refine .s (.h (.s (.s (.s (.s (.s (.s (.s .z)))))))) ?_ | refine .s (.h (.s (.s (.s (.s (.s (.s (.s (.s .z))))))))) ?_ | refine .s (.x .z) ?_ | refine .s (.x (.s .z)) ?_ | refine .s (.x (.s (.s .z))) ?_ | refine .s (.x (.s (.s (.s .z)))) ?_ | refine .s (.x (.s (.s (.s (.s .z))))) ?_ | refine .s (.x (.s (.s (.s (.s (.s .z)))))) ?_ | refine .s (.x (.s (.s (.s (.s (.s (.s .z))))))) ?_))) ?_
          rintro _ _ ⟨b31, cap31, junk31, u31, rfl, hj31, hc31, rfl⟩
          refine r_callR cb_45 rfl rfl rfl rfl rfl (spec_MM_ok _ _ _ _ _ _ _ es rfl (fun i hi => fm_take lk_len lz hi) _ _ _ _ _ _ _ ls rfl (fun i hi => fm_take lk_len lz hi) (by omega) (by have := hse1 (by omega); have := hsz2 (by omega); omega) hok) (by first | exact insSelf _ _ | exact insApp1 _ _ _ | exact insApp2 _ _ _ | (repeat (first | exact .z | refine .s (.h .z) ?_ | refine .s (.h (.s .z)) ?_ | refine .s (.h (.s (.s .z))) ?_ | refine .s (.h (.s (.s (.s .z)))) ?_ | refine .s (.h (.s (.s (.s (.s .z))))) ?_ | refine .s (.h (.s (.s (.s (.s (.s .z)))))) ?_ | refine .s (.h (.s (.s (.s (.s (.s (.s .z))))))) ?_ | refine .s (.h (.s (.s (.s (.s (.s (.s (.s .z)))))))) ?_ | refine .s (.h (.s (.s (.s (.s (.s (.s (.s (.s .z))))))))) ?_ | refine .s (.x .z) ?_ | refine .s (.x (.s .z)) ?_ | refine .s (.x (.s (.s .z))) ?_ | refine .s (.x (.s (.s (.s .z)))) ?_ | refine .s (.x (.s (.s (.s (.s .z))))) ?_ | refine .s (.x (.s (.s (.s (.s (.s .z)))))) ?_ | refine .s (.x (.s (.s (.s (.s (.s (.s .z))))))) ?_))) ?_
          rintro _ _ ⟨b32, cap32, junk32, u32, rfl, hj32, hc32, rfl⟩
          refine r_move rfl rfl rfl ?_
          refine r_extract rfl rfl rfl rfl ?_
          refine r_extract rfl rfl rfl rfl ?_
          refine r_assign rfl rfl rfl ?_
          refine r_assign rfl rfl rfl ?_
          refine R_nil ?_
          refine K_tn ?_
          refine K_seq ?_
          refine R_region ?_
          refine r_move rfl rfl rfl ?_
          refine r_callR cb_34 rfl rfl rfl rfl rfl (hto1 (by omega)) (by first | exact insSelf _ _ | exact insApp1 _ _ _ | exact insApp2 _ _ _ | (repeat (first | exact .z | refine .s (.h .z) ?_ | refine .s (.h (.s .z)) ?_ | refine .s (.h (.s (.s .z))) ?_ | refine .s (.h (.s (.s (.s .z)))) ?_ | refine .s (.h (.s (.s (.s (.s .z))))) ?_ | refine .s (.h (.s (.s (.s (.s (.s .z)))))) ?_ | refine .s (.h (.s (.s (.s (.s (.s (.s .z))))))) ?_ | refine .s (.h (.s (.s (.s (.s (.s (.s (.s .z)))))))) ?_ | refine .s (.h (.s (.s (.s (.s (.s (.s (.s (.s .z))))))))) ?_ | refine .s (.x .z) ?_ | refine .s (.x (.s .z)) ?_ | refine .s (.x (.s (.s .z))) ?_ | refine .s (.x (.s (.s (.s .z)))) ?_ | refine .s (.x (.s (.s (.s (.s .z))))) ?_ | refine .s (.x (.s (.s (.s (.s (.s .z)))))) ?_ | refine .s (.x (.s (.s (.s (.s (.s (.s .z))))))) ?_))) ?_
          rintro _ _ ⟨b36, cap36, junk36, u36, rfl, hj36, hc36, rfl⟩
          refine r_assign rfl rfl rfl ?_
          refine R_nil ?_
          refine K_tn ?_
          refine K_seq ?_
          refine R_region ?_
          refine r_move rfl rfl rfl ?_
          refine r_callR cb_34 rfl rfl rfl rfl rfl (hto2 (by have := hse1 (by omega); have := hsz2 (by omega); omega)) (by first | exact insSelf _ _ | exact insApp1 _ _ _ | exact insApp2 _ _ _ | (repeat (first | exact .z | refine .s (.h .z) ?_ | refine .s (.h (.s .z)) ?_ | refine .s (.h (.s (.s .z))) ?_ | refine .s (.h (.s (.s (.s .z)))) ?_ | refine .s (.h (.s (.s (.s (.s .z))))) ?_ | refine .s (.h (.s (.s (.s (.s (.s .z)))))) ?_ | refine .s (.h (.s (.s (.s (.s (.s (.s .z))))))) ?_ | refine .s (.h (.s (.s (.s (.s (.s (.s (.s .z)))))))) ?_ | refine .s (.h (.s (.s (.s (.s (.s (.s (.s (.s .z))))))))) ?_ | refine .s (.x .z) ?_ | refine .s (.x (.s .z)) ?_ | refine .s (.x (.s (.s .z))) ?_ | refine .s (.x (.s (.s (.s .z)))) ?_ | refine .s (.x (.s (.s (.s (.s .z))))) ?_ | refine .s (.x (.s (.s (.s (.s (.s .z)))))) ?_ | refine .s (.x (.s (.s (.s (.s (.s (.s .z))))))) ?_))) ?_
          rintro _ _ ⟨b38, cap38, junk38, u38, rfl, hj38, hc38, rfl⟩
          refine r_assign rfl rfl rfl ?_
          refine R_nil ?_
          refine K_tn ?_
          refine K_seq ?_
          refine R_region ?_
          refine r_move rfl rfl rfl ?_
          refine r_move rfl rfl rfl ?_
          refine r_callR cb_46 rfl rfl rfl rfl rfl (impl_MM_ok _ _ _ _ _ _ es rfl (fun i hi => fm_take lk_len lz hi) _ _ _ _ _ _ _ ls rfl (fun i hi => fm_take lk_len lz hi) (by omega) (by have := hse1 (by omega); have := hsz2 (by omega); omega) hok _ rfl) (by first | exact insSelf _ _ | exact insApp1 _ _ _ | exact insApp2 _ _ _ | (repeat (first | exact .z | refine .s (.h .z) ?_ | refine .s (.h (.s .z)) ?_ | refine .s (.h (.s (.s .z))) ?_ | refine .s (.h (.s (.s (.s .z)))) ?_ | refine .s (.h (.s (.s (.s (.s .z))))) ?_ | refine .s (.h (.s (.s (.s (.s (.s .z)))))) ?_ | refine .s (.h (.s (.s (.s (.s (.s (.s .z))))))) ?_ | refine .s (.h (.s (.s (.s (.s (.s (.s (.s .z)))))))) ?_ | refine .s (.h (.s (.s (.s (.s (.s (.s (.s (.s .z))))))))) ?_ | refine .s (.x .z) ?_ | refine .s (.x (.s .z)) ?_ | refine .s (.x (.s (.s .z))) ?_ | refine .s (.x (.s (.s (.s .z)))) ?_ | refine .s (.x (.s (.s (.s (.s .z))))) ?_ | refine .s (.x (.s (.s (.s (.s (.s .z)))))) ?_ | refine .s (.x (.s (.s (.s (.s (.s (.s .z))))))) ?_))) ?_
          rintro _ _ ⟨b42, cap42, junk42, u42, rfl, hj42, hc42, rfl⟩
          refine r_move rfl rfl rfl ?_
          refine r_extract rfl rfl rfl rfl ?_
          refine r_extract rfl rfl rfl rfl ?_
          refine r_assign rfl rfl rfl ?_
          refine r_assign rfl rfl rfl ?_
          refine R_nil ?_
          refine K_tn ?_
          refine K_seq ?_
          refine K_seq ?_
          refine R_region ?_
          refine r_move rfl rfl rfl ?_
          refine r_move rfl rfl rfl ?_
          refine s_callV cb_37 rfl rfl rfl rfl rfl (eqLookS _ _ _ _ _ _ _ (mapG (mmF es ls) es.length) rfl (fun i hi => fm_take lk_len lz hi) _ _ _ _ _ _ (fun i hi => fm_take lk_len lz hi) (by omega)) (by first | exact insSelf _ _ | exact insApp1 _ _ _ | exact insApp2 _ _ _ | (repeat (first | exact .z | refine .s (.h .z) ?_ | refine .s (.h (.s .z)) ?_ | refine .s (.h (.s (.s .z))) ?_ | refine .s (.h (.s (.s (.s .z)))) ?_ | refine .s (.h (.s (.s (.s (.s .z))))) ?_ | refine .s (.h (.s (.s (.s (.s (.s .z)))))) ?_ | refine .s (.h (.s (.s (.s (.s (.s (.s .z))))))) ?_ | refine .s (.h (.s (.s (.s (.s (.s (.s (.s .z)))))))) ?_ | refine .s (.h (.s (.s (.s (.s (.s (.s (.s (.s .z))))))))) ?_ | refine .s (.x .z) ?_ | refine .s (.x (.s .z)) ?_ | refine .s (.x (.s (.s .z))) ?_ | refine .s (.x (.s (.s (.s .z)))) ?_ | refine .s (.x (.s (.s (.s (.s .z))))) ?_ | refine .s (.x (.s (.s (.s (.s (.s .z)))))) ?_ | refine .s (.x (.s (.s (.s (.s (.s (.s .z))))))) ?_))) (fun h47 => ?_) (fun h47 => ?_)
          · first
            | (exfalso; first | omega | (have := hse1 (by omega); have := hsz2 (by omega); omega) | (simp_all; done))
            |
              refine r_not rfl rfl rfl ?_
              refine r_move rfl rfl rfl ?_
              refine r_move rfl rfl rfl ?_
              refine r_move rfl rfl rfl ?_
              refine s_neq rfl rfl rfl rfl (fun h52 => ?_) (fun h52 => ?_)
              · first
                | (exfalso; first | omega | (have := hse1 (by omega); have := hsz2 (by omega); omega) | (simp_all; done))
                |
                  refine r_pick_f rfl rfl rfl rfl ?_
                  refine R_nil ?_
                  refine K_tn ?_
                  refine K_cond_t rfl ?_
                  refine K_seq ?_
                  refine R_region ?_
                  refine r_assign rfl rfl rfl ?_
                  refine R_nil ?_
                  refine K_tn ?_
                  refine K_ret ?_
                  refine K_tr ?_
                  refine K_done (H' := []) rfl rfl (.s (.tmp rfl) .z) (by repeat (first | exact .z | apply Rems.s Rem.z | apply Rems.s (Rem.s Rem.z) | apply Rems.s (Rem.s (Rem.s Rem.z)) | apply Rems.s (Rem.s (Rem.s (Rem.s Rem.z))) | apply Rems.s (Rem.s (Rem.s (Rem.s (Rem.s Rem.z)))) | apply Rems.s (Rem.s (Rem.s (Rem.s (Rem.s (Rem.s Rem.z))))) | apply Rems.s (Rem.s (Rem.s (Rem.s (Rem.s (Rem.s (Rem.s Rem.z)))))) | apply Rems.s (Rem.s (Rem.s (Rem.s (Rem.s (Rem.s (Rem.s (Rem.s Rem.z))))))) | apply Rems.s (Rem.s (Rem.s (Rem.s (Rem.s (Rem.s (Rem.s (Rem.s (Rem.s Rem.z)))))))) | apply Rems.s (Rem.s (Rem.s (Rem.s (Rem.s (Rem.s (Rem.s (Rem.s (Rem.s (Rem.s Rem.z))))))))))) ?_
                  refine ⟨?_, rfl⟩
                  rfl
              · first
                | (exfalso; first | omega | (have := hse1 (by omega); have := hsz2 (by omega); omega) | (simp_all; done))
                |
                  refine r_pick_f rfl rfl rfl rfl ?_
                  refine R_nil ?_
                  refine K_tn ?_
                  refine K_cond_f rfl ?_
                  refine K_skip ?_
                  refine K_tn ?_
                  refine K_seq ?_
                  refine K_seq ?_
                  refine R_region ?_
                  refine r_move rfl rfl rfl ?_
                  refine r_move rfl rfl rfl ?_
                  refine r_callR cb_34 rfl rfl rfl rfl rfl (hto1 (by omega)) (by first | exact insSelf _ _ | exact insApp1 _ _ _ | exact insApp2 _ _ _ | (repeat (first | exact .z | refine .s (.h .z) ?_ | refine .s (.h (.s .z)) ?_ | refine .s (.h (.s (.s .z))) ?_ | refine .s (.h (.s (.s (.s .z)))) ?_ | refine .s (.h (.s (.s (.s (.s .z))))) ?_ | refine .s (.h (.s (.s (.s (.s (.s .z)))))) ?_ | refine .s (.h (.s (.s (.s (.s (.s (.s .z))))))) ?_ | refine .s (.h (.s (.s (.s (.s (.s (.s (.s .z)))))))) ?_ | refine .s (.h (.s (.s (.s (.s (.s (.s (.s (.s .z))))))))) ?_ | refine .s (.x .z) ?_ | refine .s (.x (.s .z)) ?_ | refine .s (.x (.s (.s .z))) ?_ | refine .s (.x (.s (.s (.s .z)))) ?_ | refine .s (.x (.s (.s (.s (.s .z))))) ?_ | refine .s (.x (.s (.s (.s (.s (.s .z)))))) ?_ | refine .s (.x (.s (.s (.s (.s (.s (.s .z))))))) ?_))) ?_
                  rintro _ _ ⟨b56, cap56, junk56, u56, rfl, hj56, hc56, rfl⟩
                  refine s_callV cb_37 rfl rfl rfl rfl rfl (eqLookS _ _ _ _ _ _ _ _ rfl (fun i hi => fm_take lk_len lz hi) _ _ _ _ _ _ (fun i hi => fm_take lk_len lz hi) (by omega)) (by first | exact insSelf _ _ | exact insApp1 _ _ _ | exact insApp2 _ _ _ | (repeat (first | exact .z | refine .s (.h .z) ?_ | refine .s (.h (.s .z)) ?_ | refine .s (.h (.s (.s .z))) ?_ | refine .s (.h (.s (.s (.s .z)))) ?_ | refine .s (.h (.s (.s (.s (.s .z))))) ?_ | refine .s (.h (.s (.s (.s (.s (.s .z)))))) ?_ | refine .s (.h (.s (.s (.s (.s (.s (.s .z))))))) ?_ | refine .s (.h (.s (.s (.s (.s (.s (.s (.s .z)))))))) ?_ | refine .s (.h (.s (.s (.s (.s (.s (.s (.s (.s .z))))))))) ?_ | refine .s (.x .z) ?_ | refine .s (.x (.s .z)) ?_ | refine .s (.x (.s (.s .z))) ?_ | refine .s (.x (.s (.s (.s .z)))) ?_ | refine .s (.x (.s (.s (.s (.s .z))))) ?_ | refine .s (.x (.s (.s (.s (.s (.s .z)))))) ?_ | refine .s (.x (.s (.s (.s (.s (.s (.s .z))))))) ?_))) (fun h57 => ?_) (fun h57 => ?_)
                  · first
                    | (exfalso; first | omega | (have := hse1 (by omega); have := hsz2 (by omega); omega) | (simp_all; done))
                    |
                      refine r_not rfl rfl rfl ?_
                      refine R_nil ?_
                      refine K_tn ?_
                      refine K_cond_f rfl ?_
                      refine K_skip ?_
                      refine K_tn ?_
                      refine K_seq ?_
                      refine K_seq ?_
                      refine R_region ?_
                      refine r_move rfl rfl rfl ?_
                      refine r_move rfl rfl rfl ?_
                      refine r_callR cb_34 rfl rfl rfl rfl rfl (hto2 (by have := hse1 (by omega); have := hsz2 (by omega); omega)) (by first | exact insSelf _ _ | exact insApp1 _ _ _ | exact insApp2 _ _ _ | (repeat (first | exact .z | refine .s (.h .z) ?_ | refine .s (.h (.s .z)) ?_ | refine .s (.h (.s (.s .z))) ?_ | refine .s (.h (.s (.s (.s .z)))) ?_ | refine .s (.h (.s (.s (.s (.s .z))))) ?_ | refine .s (.h (.s (.s (.s (.s (.s .z)))))) ?_ | refine .s (.h (.s (.s (.s (.s (.s (.s .z))))))) ?_ | refine .s (.h (.s (.s (.s (.s (.s (.s (.s .z)))))))) ?_ | refine .s (.h (.s (.s (.s (.s (.s (.s (.s (.s .z))))))))) ?_ | refine .s (.x .z) ?_ | refine .s (.x (.s .z)) ?_ | refine .s (.x (.s (.s .z))) ?_ | refine .s (.x (.s (.s (.s .z)))) ?_ | refine .s (.x (.s (.s (.s (.s .z))))) ?_ | refine .s (.x (.s (.s (.s (.s (.s .z)))))) ?_ | refine .s (.x (.s (.s (.s (.s (.s (.s .z))))))) ?_))) ?_
                      rintro _ _ ⟨b61, cap61, junk61, u61, rfl, hj61, hc61, rfl⟩
                      refine s_callV cb_37 rfl rfl rfl rfl rfl (eqLookS _ _ _ _ _ _ _ _ rfl (fun i hi => fm_take lk_len lz hi) _ _ _ _ _ _ (fun i hi => fm_take lk_len lz hi) (by omega)) (by first | exact insSelf _ _ | exact insApp1 _ _ _ | exact insApp2 _ _ _ | (repeat (first | exact .z | refine .s (.h .z) ?_ | refine .s (.h (.s .z)) ?_ | refine .s (.h (.s (.s .z))) ?_ | refine .s (.h (.s (.s (.s .z)))) ?_ | refine .s (.h (.s (.s (.s (.s .z))))) ?_ | refine .s (.h (.s (.s (.s (.s (.s .z)))))) ?_ | refine .s (.h (.s (.s (.s (.s (.s (.s .z))))))) ?_ | refine .s (.h (.s (.s (.s (.s (.s (.s (.s .z)))))))) ?_ | refine .s (.h (.s (.s (.s (.s (.s (.s (.s (.s .z))))))))) ?_ | refine .s (.x .z) ?_ | refine .s (.x (.s .z)) ?_ | refine .s (.x (.s (.s .z))) ?_ | refine .s (.x (.s (.s (.s .z)))) ?_ | refine .s (.x (.s (.s (.s (.s .z))))) ?_ | refine .s (.x (.s (.s (.s (.s (.s .z)))))) ?_ | refine .s (.x (.s (.s (.s (.s (.s (.s .z))))))) ?_))) (fun h62 => ?_) (fun h62 => ?_)
                      · first
                        | (exfalso; first | omega | (have := hse1 (by omega); have := hsz2 (by omega); omega) | (simp_all; done))
                        |
                          refine r_not rfl rfl rfl ?_
                          refine R_nil ?_
                          refine K_tn ?_
                          refine K_cond_f rfl ?_
                          refine K_skip ?_
                          refine K_tn ?_
                          refine K_seq ?_
                          refine R_region ?_
                          refine r_assign rfl rfl rfl ?_
                          refine R_nil ?_
                          refine K_tn ?_
                          refine K_seq ?_
                          refine R_region ?_
                          refine r_move rfl rfl rfl ?_
                          refine r_move rfl rfl rfl ?_
                          refine r_callM cb_44 rfl rfl rfl rfl rfl (markLookS _ es.length _ 1 (fm lk es ++ junk36) _ (by rw [List.length_append, fm_len lk_len]; omega) (by have := hse1 (by omega); have := hsz2 (by omega); omega)) (by repeat (first | exact .z | apply Rems.s Rem.z | apply Rems.s (Rem.s Rem.z) | apply Rems.s (Rem.s (Rem.s Rem.z)) | apply Rems.s (Rem.s (Rem.s (Rem.s Rem.z))) | apply Rems.s (Rem.s (Rem.s (Rem.s (Rem.s Rem.z)))) | apply Rems.s (Rem.s (Rem.s (Rem.s (Rem.s (Rem.s Rem.z))))) | apply Rems.s (Rem.s (Rem.s (Rem.s (Rem.s (Rem.s (Rem.s Rem.z)))))) | apply Rems.s (Rem.s (Rem.s (Rem.s (Rem.s (Rem.s (Rem.s (Rem.s Rem.z))))))) | apply Rems.s (Rem.s (Rem.s (Rem.s (Rem.s (Rem.s (Rem.s (Rem.s (Rem.s Rem.z)))))))) | apply Rems.s (Rem.s (Rem.s (Rem.s (Rem.s (Rem.s (Rem.s (Rem.s (Rem.s (Rem.s Rem.z))))))))))) (by first | exact insSelf _ _ | exact insApp1 _ _ _ | exact insApp2 _ _ _ | (repeat (first | exact .z | refine .s (.h .z) ?_ | refine .s (.h (.s .z)) ?_ | refine .s (.h (.s (.s .z))) ?_ | refine .s (.h (.s (.s (.s .z)))) ?_ | refine .s (.h (.s (.s (.s (.s .z))))) ?_ | refine .s (.h (.s (.s (.s (.s (.s .z)))))) ?_ | refine .s (.h (.s (.s (.s (.s (.s (.s .z))))))) ?_ | refine .s (.h (.s (.s (.s (.s (.s (.s (.s .z)))))))) ?_ | refine .s (.h (.s (.s (.s (.s (.s (.s (.s (.s .z))))))))) ?_ | refine .s (.x .z) ?_ | refine .s (.x (.s .z)) ?_ | refine .s (.x (.s (.s .z))) ?_ | refine .s (.x (.s (.s (.s .z)))) ?_ | refine .s (.x (.s (.s (.s (.s .z))))) ?_ | refine .s (.x (.s (.s (.s (.s (.s .z)))))) ?_ | refine .s (.x (.s (.s (.s (.s (.s (.s .z))))))) ?_))) ?_
                          rintro _ _ ⟨lm66, rfl, hlm66, rfl⟩
                          refine r_assign rfl rfl rfl ?_
                          refine R_nil ?_
                          refine K_tn ?_
                          refine K_seq ?_
                          refine R_region ?_
                          refine r_move rfl rfl rfl ?_
                          refine r_move rfl rfl rfl ?_
                          refine r_callM cb_44 rfl rfl rfl rfl rfl (markLookS _ ls.length _ (1 + es.length * 3) (fm lk ls ++ junk38) _ (by rw [List.length_append, fm_len lk_len]; omega) (by have := hse1 (by omega); have := hsz2 (by omega); omega)) (by repeat (first | exact .z | apply Rems.s Rem.z | apply Rems.s (Rem.s Rem.z) | apply Rems.s (Rem.s (Rem.s Rem.z)) | apply Rems.s (Rem.s (Rem.s (Rem.s Rem.z))) | apply Rems.s (Rem.s (Rem.s (Rem.s (Rem.s Rem.z)))) | apply Rems.s (Rem.s (Rem.s (Rem.s (Rem.s (Rem.s Rem.z))))) | apply Rems.s (Rem.s (Rem.s (Rem.s (Rem.s (Rem.s (Rem.s Rem.z)))))) | apply Rems.s (Rem.s (Rem.s (Rem.s (Rem.s (Rem.s (Rem.s (Rem.s Rem.z))))))) | apply Rems.s (Rem.s (Rem.s (Rem.s (Rem.s (Rem.s (Rem.s (Rem.s (Rem.s Rem.z)))))))) | apply Rems.s (Rem.s (Rem.s (Rem.s (Rem.s (Rem.s (Rem.s (Rem.s (Rem.s (Rem.s Rem.z))))))))))) (by first | exact insSelf _ _ | exact insApp1 _ _ _ | exact insApp2 _ _ _ | (repeat (first | exact .z | refine .s (.h .z) ?_ | refine .s (.h (.s .z)) ?_ | refine .s (.h (.s (.s .z))) ?_ | refine .s (.h (.s (.s (.s .z)))) ?_ | refine .s (.h (.s (.s (.s (.s .z))))) ?_ | refine .s (.h (.s (.s (.s (.s (.s .z)))))) ?_ | refine .s (.h (.s (.s (.s (.s (.s (.s .z))))))) ?_ | refine .s (.h (.s (.s (.s (.s (.s (.s (.s .z)))))))) ?_ | refine .s (.h (.s (.s (.s (.s (.s (.s (.s (.s .z))))))))) ?_ | refine .s (.x .z) ?_ | refine .s (.x (.s .z)) ?_ | refine .s (.x (.s (.s .z))) ?_ | refine .s (.x (.s (.s (.s .z)))) ?_ | refine .s (.x (.s (.s (.s (.s .z))))) ?_ | refine .s (.x (.s (.s (.s (.s (.s .z)))))) ?_ | refine .s (.x (.s (.s (.s (.s (.s (.s .z))))))) ?_))) ?_
                          rintro _ _ ⟨lm69, rfl, hlm69, rfl⟩
                          refine r_assign rfl rfl rfl ?_
                          refine R_nil ?_
                          refine K_tn ?_
                          refine K_seq ?_
                          refine K_seq ?_
                          refine R_region ?_
                          refine r_move rfl rfl rfl ?_
                          refine s_lss rfl rfl rfl rfl (fun h71 => ?_) (fun h71 => ?_)
                          · first
                            | (exfalso; first | omega | (have := hse1 (by omega); have := hsz2 (by omega); omega) | (simp_all; done))
                            |
                              refine r_move rfl rfl rfl ?_
                              refine r_skip rfl rfl ?_
                              refine r_skip rfl rfl ?_
                              refine r_skip rfl rfl ?_
                              refine r_skip rfl rfl ?_
                              refine r_pick_t rfl rfl rfl rfl ?_
                              refine r_move rfl rfl rfl ?_
                              refine r_skip rfl rfl ?_
                              refine r_skip rfl rfl ?_
                              refine r_skip rfl rfl ?_
                              refine r_pick_t rfl rfl rfl rfl ?_
                              refine R_nil ?_
                              refine K_tn ?_
                              refine K_cond_t rfl ?_
                              refine K_seq ?_
                              refine R_region ?_
                              refine r_assign rfl rfl rfl ?_
                              refine R_nil ?_
                              refine K_tn ?_
                              refine K_ret ?_
                              refine K_tr ?_
                              refine K_done (H' := []) rfl rfl (.s (.tmp rfl) .z) (by repeat (first | exact .z | apply Rems.s Rem.z | apply Rems.s (Rem.s Rem.z) | apply Rems.s (Rem.s (Rem.s Rem.z)) | apply Rems.s (Rem.s (Rem.s (Rem.s Rem.z))) | apply Rems.s (Rem.s (Rem.s (Rem.s (Rem.s Rem.z)))) | apply Rems.s (Rem.s (Rem.s (Rem.s (Rem.s (Rem.s Rem.z))))) | apply Rems.s (Rem.s (Rem.s (Rem.s (Rem.s (Rem.s (Rem.s Rem.z)))))) | apply Rems.s (Rem.s (Rem.s (Rem.s (Rem.s (Rem.s (Rem.s (Rem.s Rem.z))))))) | apply Rems.s (Rem.s (Rem.s (Rem.s (Rem.s (Rem.s (Rem.s (Rem.s (Rem.s Rem.z)))))))) | apply Rems.s (Rem.s (Rem.s (Rem.s (Rem.s (Rem.s (Rem.s (Rem.s (Rem.s (Rem.s Rem.z))))))))))) ?_
                              refine ⟨?_, rfl⟩
                              rfl
                          · first
                            | (exfalso; first | omega | (have := hse1 (by omega); have := hsz2 (by omega); omega) | (simp_all; done))
                            |
                              refine r_move rfl rfl rfl ?_
                              refine r_move rfl rfl rfl ?_
                              refine r_move rfl rfl rfl ?_
                              refine s_callV cb_37 rfl rfl rfl rfl rfl (eqLookS _ _ _ _ _ _ _ (mapG (mmF es ls) es.length) rfl (fun i hi => fm_take lk_len lz hi) _ _ _ _ _ _ (fun i hi => fm_take lk_len lz hi) (by omega)) (by first | exact insSelf _ _ | exact insApp1 _ _ _ | exact insApp2 _ _ _ | (repeat (first | exact .z | refine .s (.h .z) ?_ | refine .s (.h (.s .z)) ?_ | refine .s (.h (.s (.s .z))) ?_ | refine .s (.h (.s (.s (.s .z)))) ?_ | refine .s (.h (.s (.s (.s (.s .z))))) ?_ | refine .s (.h (.s (.s (.s (.s (.s .z)))))) ?_ | refine .s (.h (.s (.s (.s (.s (.s (.s .z))))))) ?_ | refine .s (.h (.s (.s (.s (.s (.s (.s (.s .z)))))))) ?_ | refine .s (.h (.s (.s (.s (.s (.s (.s (.s (.s .z))))))))) ?_ | refine .s (.x .z) ?_ | refine .s (.x (.s .z)) ?_ | refine .s (.x (.s (.s .z))) ?_ | refine .s (.x (.s (.s (.s .z)))) ?_ | refine .s (.x (.s (.s (.s (.s .z))))) ?_ | refine .s (.x (.s (.s (.s (.s (.s .z)))))) ?_ | refine .s (.x (.s (.s (.s (.s (.s (.s .z))))))) ?_))) (fun h75 => ?_) (fun h75 => ?_)
                              · first
                                | (exfalso; first | omega | (have := hse1 (by omega); have := hsz2 (by omega); omega) | (simp_all; done))
                                |
                                  refine r_not rfl rfl rfl ?_
                                  refine r_pick_f rfl rfl rfl rfl ?_
                                  refine r_move rfl rfl rfl ?_
                                  refine r_move rfl rfl rfl ?_
                                  refine r_move rfl rfl rfl ?_
                                  refine s_neq rfl rfl rfl rfl (fun h81 => ?_) (fun h81 => ?_)
                                  · first
                                    | (exfalso; first | omega | (have := hse1 (by omega); have := hsz2 (by omega); omega) | (simp_all; done))
                                    |
                                      refine r_pick_f rfl rfl rfl rfl ?_
                                      refine R_nil ?_
                                      refine K_tn ?_
                                      refine K_cond_t rfl ?_
                                      refine K_seq ?_
                                      refine R_region ?_
                                      refine r_assign rfl rfl rfl ?_
                                      refine R_nil ?_
                                      refine K_tn ?_
                                      refine K_ret ?_
                                      refine K_tr ?_
                                      refine K_done (H' := []) rfl rfl (.s (.tmp rfl) .z) (by repeat (first | exact .z | apply Rems.s Rem.z | apply Rems.s (Rem.s Rem.z) | apply Rems.s (Rem.s (Rem.s Rem.z)) | apply Rems.s (Rem.s (Rem.s (Rem.s Rem.z))) | apply Rems.s (Rem.s (Rem.s (Rem.s (Rem.s Rem.z)))) | apply Rems.s (Rem.s (Rem.s (Rem.s (Rem.s (Rem.s Rem.z))))) | apply Rems.s (Rem.s (Rem.s (Rem.s (Rem.s (Rem.s (Rem.s Rem.z)))))) | apply Rems.s (Rem.s (Rem.s (Rem.s (Rem.s (Rem.s (Rem.s (Rem.s Rem.z))))))) | apply Rems.s (Rem.s (Rem.s (Rem.s (Rem.s (Rem.s (Rem.s (Rem.s (Rem.s Rem.z)))))))) | apply Rems.s (Rem.s (Rem.s (Rem.s (Rem.s (Rem.s (Rem.s (Rem.s (Rem.s (Rem.s Rem.z))))))))))) ?_
                                      refine ⟨?_, rfl⟩
                                      rfl
                                  · first
                                    | (exfalso; first | omega | (have := hse1 (by omega); have := hsz2 (by omega); omega) | (simp_all; done))
                                    |
                                      refine r_pick_f rfl rfl rfl rfl ?_
                                      refine R_nil ?_
                                      refine K_tn ?_
                                      refine K_cond_f rfl ?_
                                      refine K_skip ?_
                                      refine K_tn ?_
                                      refine K_seq ?_
                                      refine R_region ?_
                                      refine r_assign rfl rfl rfl ?_
                                      refine R_nil ?_
                                      refine K_tn ?_
                                      refine K_seq ?_
                                      refine R_region ?_
                                      refine r_move rfl rfl rfl ?_
                                      refine r_move rfl rfl rfl ?_
                                      refine r_callM cb_44 rfl rfl rfl rfl rfl (markLX _ _ _ 1 (mapG (mmF es ls) es.length) _ _ rfl (by omega)) (by repeat (first | exact .z | apply Rems.s Rem.z | apply Rems.s (Rem.s Rem.z) | apply Rems.s (Rem.s (Rem.s Rem.z)) | apply Rems.s (Rem.s (Rem.s (Rem.s Rem.z))) | apply Rems.s (Rem.s (Rem.s (Rem.s (Rem.s Rem.z)))) | apply Rems.s (Rem.s (Rem.s (Rem.s (Rem.s (Rem.s Rem.z))))) | apply Rems.s (Rem.s (Rem.s (Rem.s (Rem.s (Rem.s (Rem.s Rem.z)))))) | apply Rems.s (Rem.s (Rem.s (Rem.s (Rem.s (Rem.s (Rem.s (Rem.s Rem.z))))))) | apply Rems.s (Rem.s (Rem.s (Rem.s (Rem.s (Rem.s (Rem.s (Rem.s (Rem.s Rem.z)))))))) | apply Rems.s (Rem.s (Rem.s (Rem.s (Rem.s (Rem.s (Rem.s (Rem.s (Rem.s (Rem.s Rem.z))))))))))) (by first | exact insSelf _ _ | exact insApp1 _ _ _ | exact insApp2 _ _ _ | (repeat (first | exact .z | refine .s (.h .z) ?_ | refine .s (.h (.s .z)) ?_ | refine .s (.h (.s (.s .z))) ?_ | refine .s (.h (.s (.s (.s .z)))) ?_ | refine .s (.h (.s (.s (.s (.s .z))))) ?_ | refine .s (.h (.s (.s (.s (.s (.s .z)))))) ?_ | refine .s (.h (.s (.s (.s (.s (.s (.s .z))))))) ?_ | refine .s (.h (.s (.s (.s (.s (.s (.s (.s .z)))))))) ?_ | refine .s (.h (.s (.s (.s (.s (.s (.s (.s (.s .z))))))))) ?_ | refine .s (.x .z) ?_ | refine .s (.x (.s .z)) ?_ | refine .s (.x (.s (.s .z))) ?_ | refine .s (.x (.s (.s (.s .z)))) ?_ | refine .s (.x (.s (.s (.s (.s .z))))) ?_ | refine .s (.x (.s (.s (.s (.s (.s .z)))))) ?_ | refine .s (.x (.s (.s (.s (.s (.s (.s .z))))))) ?_))) ?_
                                      rintro _ _ ⟨rfl, rfl⟩
                                      refine r_assign rfl rfl rfl ?_
                                      refine R_nil ?_
                                      refine K_tn ?_
                                      refine K_seq ?_
                                      refine R_region ?_
                                      refine r_assign rfl rfl rfl ?_
                                      refine R_nil ?_
                                      refine K_tn ?_
                                      refine K_seq ?_
                                      refine R_region ?_
                                      refine r_move rfl rfl rfl ?_
                                      refine r_move rfl rfl rfl ?_
                                      refine r_callV cb_47 rfl rfl rfl rfl rfl (heldLX _ _ _ 1 _ _ _ (by omega)) (by first | exact insSelf _ _ | exact insApp1 _ _ _ | exact insApp2 _ _ _ | (repeat (first | exact .z | refine .s (.h .z) ?_ | refine .s (.h (.s .z)) ?_ | refine .s (.h (.s (.s .z))) ?_ | refine .s (.h (.s (.s (.s .z)))) ?_ | refine .s (.h (.s (.s (.s (.s .z))))) ?_ | refine .s (.h (.s (.s (.s (.s (.s .z)))))) ?_ | refine .s (.h (.s (.s (.s (.s (.s (.s .z))))))) ?_ | refine .s (.h (.s (.s (.s (.s (.s (.s (.s .z)))))))) ?_ | refine .s (.h (.s (.s (.s (.s (.s (.s (.s (.s .z))))))))) ?_ | refine .s (.x .z) ?_ | refine .s (.x (.s .z)) ?_ | refine .s (.x (.s (.s .z))) ?_ | refine .s (.x (.s (.s (.s .z)))) ?_ | refine .s (.x (.s (.s (.s (.s .z))))) ?_ | refine .s (.x (.s (.s (.s (.s (.s .z)))))) ?_ | refine .s (.x (.s (.s (.s (.s (.s (.s .z))))))) ?_))) ?_
                                      refine r_assign rfl rfl rfl ?_
                                      refine R_nil ?_
                                      refine K_tn ?_
                                      refine K_seq ?_
                                      refine K_seq ?_
                                      refine R_region ?_
                                      refine r_move rfl rfl rfl ?_
                                      refine s_lss rfl rfl rfl rfl (fun h90 => ?_) (fun h90 => ?_)
                                      · first
                                        | (exfalso; first | omega | (have := hse1 (by omega); have := hsz2 (by omega); omega) | (simp_all; done))
                                        |
                                          refine R_nil ?_
                                          refine K_tn ?_
                                          refine K_cond_t rfl ?_
                                          refine K_seq ?_
                                          refine R_region ?_
                                          refine r_assign rfl rfl rfl ?_
                                          refine R_nil ?_
                                          refine K_tn ?_
                                          refine K_ret ?_
                                          refine K_tr ?_
                                          refine K_done (H' := []) rfl rfl (.s (.tmp rfl) .z) (by repeat (first | exact .z | apply Rems.s Rem.z | apply Rems.s (Rem.s Rem.z) | apply Rems.s (Rem.s (Rem.s Rem.z)) | apply Rems.s (Rem.s (Rem.s (Rem.s Rem.z))) | apply Rems.s (Rem.s (Rem.s (Rem.s (Rem.s Rem.z)))) | apply Rems.s (Rem.s (Rem.s (Rem.s (Rem.s (Rem.s Rem.z))))) | apply Rems.s (Rem.s (Rem.s (Rem.s (Rem.s (Rem.s (Rem.s Rem.z)))))) | apply Rems.s (Rem.s (Rem.s (Rem.s (Rem.s (Rem.s (Rem.s (Rem.s Rem.z))))))) | apply Rems.s (Rem.s (Rem.s (Rem.s (Rem.s (Rem.s (Rem.s (Rem.s (Rem.s Rem.z)))))))) | apply Rems.s (Rem.s (Rem.s (Rem.s (Rem.s (Rem.s (Rem.s (Rem.s (Rem.s (Rem.s Rem.z))))))))))) ?_
                                          refine ⟨?_, rfl⟩
                                          rfl
                                      · first
                                        | (exfalso; first | omega | (have := hse1 (by omega); have := hsz2 (by omega); omega) | (simp_all; done))
                                        |
                                          refine R_nil ?_
                                          refine K_tn ?_
                                          refine K_cond_f rfl ?_
                                          refine K_skip ?_
                                          refine K_tn ?_
                                          refine K_seq ?_
                                          refine K_seq ?_
                                          refine R_region ?_
                                          refine r_move rfl rfl rfl ?_
                                          refine r_move rfl rfl rfl ?_
                                          refine s_neq rfl rfl rfl rfl (fun h93 => ?_) (fun h93 => ?_)
                                          · first
                                            | (exfalso; first | omega | (have := hse1 (by omega); have := hsz2 (by omega); omega) | (simp_all; done))
                                            |
                                              refine R_nil ?_
                                              refine K_tn ?_
                                              refine K_cond_t rfl ?_
                                              refine K_seq ?_
                                              refine R_region ?_
                                              refine r_assign rfl rfl rfl ?_
                                              refine R_nil ?_
                                              refine K_tn ?_
                                              refine K_ret ?_
                                              refine K_tr ?_
                                              refine K_done (H' := []) rfl rfl (.s (.tmp rfl) .z) (by repeat (first | exact .z | apply Rems.s Rem.z | apply Rems.s (Rem.s Rem.z) | apply Rems.s (Rem.s (Rem.s Rem.z)) | apply Rems.s (Rem.s (Rem.s (Rem.s Rem.z))) | apply Rems.s (Rem.s (Rem.s (Rem.s (Rem.s Rem.z)))) | apply Rems.s (Rem.s (Rem.s (Rem.s (Rem.s (Rem.s Rem.z))))) | apply Rems.s (Rem.s (Rem.s (Rem.s (Rem.s (Rem.s (Rem.s Rem.z)))))) | apply Rems.s (Rem.s (Rem.s (Rem.s (Rem.s (Rem.s (Rem.s (Rem.s Rem.z))))))) | apply Rems.s (Rem.s (Rem.s (Rem.s (Rem.s (Rem.s (Rem.s (Rem.s (Rem.s Rem.z)))))))) | apply Rems.s (Rem.s (Rem.s (Rem.s (Rem.s (Rem.s (Rem.s (Rem.s (Rem.s (Rem.s Rem.z))))))))))) ?_
                                              refine ⟨?_, rfl⟩
                                              rfl
                                          · first
                                            | (exfalso; first | omega | (have := hse1 (by omega); have := hsz2 (by omega); omega) | (simp_all; done))
                                            |
                                              refine R_nil ?_
                                              refine K_tn ?_
                                              refine K_cond_f rfl ?_
                                              refine K_skip ?_
                                              refine K_tn ?_
                                              refine K_seq ?_
                                              refine R_region ?_
                                              refine r_move rfl rfl rfl ?_
                                              refine r_callR cb_34 rfl rfl rfl rfl rfl (hto1 (by omega)) (by first | exact insSelf _ _ | exact insApp1 _ _ _ | exact insApp2 _ _ _ | (repeat (first | exact .z | refine .s (.h .z) ?_ | refine .s (.h (.s .z)) ?_ | refine .s (.h (.s (.s .z))) ?_ | refine .s (.h (.s (.s (.s .z)))) ?_ | refine .s (.h (.s (.s (.s (.s .z))))) ?_ | refine .s (.h (.s (.s (.s (.s (.s .z)))))) ?_ | refine .s (.h (.s (.s (.s (.s (.s (.s .z))))))) ?_ | refine .s (.h (.s (.s (.s (.s (.s (.s (.s .z)))))))) ?_ | refine .s (.h (.s (.s (.s (.s (.s (.s (.s (.s .z))))))))) ?_ | refine .s (.x .z) ?_ | refine .s (.x (.s .z)) ?_ | refine .s (.x (.s (.s .z))) ?_ | refine .s (.x (.s (.s (.s .z)))) ?_ | refine .s (.x (.s (.s (.s (.s .z))))) ?_ | refine .s (.x (.s (.s (.s (.s (.s .z)))))) ?_ | refine .s (.x (.s (.s (.s (.s (.s (.s .z))))))) ?_))) ?_
                                              rintro _ _ ⟨b96, cap96, junk96, u96, rfl, hj96, hc96, rfl⟩
                                              refine r_move rfl rfl rfl ?_
                                              refine r_callR cb_34 rfl rfl rfl rfl rfl (hto2 (by have := hse1 (by omega); have := hsz2 (by omega); omega)) (by first | exact insSelf _ _ | exact insApp1 _ _ _ | exact insApp2 _ _ _ | (repeat (first | exact .z | refine .s (.h .z) ?_ | refine .s (.h (.s .z)) ?_ | refine .s (.h (.s (.s .z))) ?_ | refine .s (.h (.s (.s (.s .z)))) ?_ | refine .s (.h (.s (.s (.s (.s .z))))) ?_ | refine .s (.h (.s (.s (.s (.s (.s .z)))))) ?_ | refine .s (.h (.s (.s (.s (.s (.s (.s .z))))))) ?_ | refine .s (.h (.s (.s (.s (.s (.s (.s (.s .z)))))))) ?_ | refine .s (.h (.s (.s (.s (.s (.s (.s (.s (.s .z))))))))) ?_ | refine .s (.x .z) ?_ | refine .s (.x (.s .z)) ?_ | refine .s (.x (.s (.s .z))) ?_ | refine .s (.x (.s (.s (.s .z)))) ?_ | refine .s (.x (.s (.s (.s (.s .z))))) ?_ | refine .s (.x (.s (.s (.s (.s (.s .z)))))) ?_ | refine .s (.x (.s (.s (.s (.s (.s (.s .z))))))) ?_))) ?_
                                              rintro _ _ ⟨b98, cap98, junk98, u98, rfl, hj98, hc98, rfl⟩
                                              refine r_callR cb_46 rfl rfl rfl rfl rfl (impl_MM_ok _ _ _ _ _ _ es rfl (fun i hi => fm_take lk_len lz hi) _ _ _ _ _ _ _ ls rfl (fun i hi => fm_take lk_len lz hi) (by omega) (by have := hse1 (by omega); have := hsz2 (by omega); omega) hok _ rfl) (by first | exact insSelf _ _ | exact insApp1 _ _ _ | exact insApp2 _ _ _ | (repeat (first | exact .z | refine .s (.h .z) ?_ | refine .s (.h (.s .z)) ?_ | refine .s (.h (.s (.s .z))) ?_ | refine .s (.h (.s (.s (.s .z)))) ?_ | refine .s (.h (.s (.s (.s (.s .z))))) ?_ | refine .s (.h (.s (.s (.s (.s (.s .z)))))) ?_ | refine .s (.h (.s (.s (.s (.s (.s (.s .z))))))) ?_ | refine .s (.h (.s (.s (.s (.s (.s (.s (.s .z)))))))) ?_ | refine .s (.h (.s (.s (.s (.s (.s (.s (.s (.s .z))))))))) ?_ | refine .s (.x .z) ?_ | refine .s (.x (.s .z)) ?_ | refine .s (.x (.s (.s .z))) ?_ | refine .s (.x (.s (.s (.s .z)))) ?_ | refine .s (.x (.s (.s (.s (.s .z))))) ?_ | refine .s (.x (.s (.s (.s (.s (.s .z)))))) ?_ | refine .s (.x (.s (.s (.s (.s (.s (.s .z))))))) ?_))) ?_
                                              rintro _ _ ⟨b99, cap99, junk99, u99, rfl, hj99, hc99, rfl⟩
                                              refine r_move rfl rfl rfl ?_
                                              refine r_extract rfl rfl rfl rfl ?_
                                              refine r_extract rfl rfl rfl rfl ?_
                                              refine r_assign rfl rfl rfl ?_
                                              refine r_assign rfl rfl rfl ?_
                                              refine R_nil ?_
                                              refine K_tn ?_
                                              refine K_seq ?_
                                              refine K_seq ?_
                                              refine R_region ?_
                                              refine r_move rfl rfl rfl ?_
                                              refine r_move rfl rfl rfl ?_
                                              refine s_callV cb_37 rfl rfl rfl rfl rfl (eqLookS _ _ _ _ _ _ _ (mapG (mmF es ls) es.length) rfl (fun i hi => fm_take lk_len lz hi) _ _ _ _ _ _ (fun i hi => fm_take lk_len lz hi) (by omega)) (by first | exact insSelf _ _ | exact insApp1 _ _ _ | exact insApp2 _ _ _ | (repeat (first | exact .z | refine .s (.h .z) ?_ | refine .s (.h (.s .z)) ?_ | refine .s (.h (.s (.s .z))) ?_ | refine .s (.h (.s (.s (.s .z)))) ?_ | refine .s (.h (.s (.s (.s (.s .z))))) ?_ | refine .s (.h (.s (.s (.s (.s (.s .z)))))) ?_ | refine .s (.h (.s (.s (.s (.s (.s (.s .z))))))) ?_ | refine .s (.h (.s (.s (.s (.s (.s (.s (.s .z)))))))) ?_ | refine .s (.h (.s (.s (.s (.s (.s (.s (.s (.s .z))))))))) ?_ | refine .s (.x .z) ?_ | refine .s (.x (.s .z)) ?_ | refine .s (.x (.s (.s .z))) ?_ | refine .s (.x (.s (.s (.s .z)))) ?_ | refine .s (.x (.s (.s (.s (.s .z))))) ?_ | refine .s (.x (.s (.s (.s (.s (.s .z)))))) ?_ | refine .s (.x (.s (.s (.s (.s (.s (.s .z))))))) ?_))) (fun h104 => ?_) (fun h104 => ?_)
                                              · first
                                                | (exfalso; first | omega | (have := hse1 (by omega); have := hsz2 (by omega); omega) | (simp_all; done))
                                                |
                                                  refine r_not rfl rfl rfl ?_
                                                  refine r_move rfl rfl rfl ?_
                                                  refine r_move rfl rfl rfl ?_
                                                  refine r_move rfl rfl rfl ?_
                                                  refine s_neq rfl rfl rfl rfl (fun h109 => ?_) (fun h109 => ?_)
                                                  · first
                                                    | (exfalso; first | omega | (have := hse1 (by omega); have := hsz2 (by omega); omega) | (simp_all; done))
                                                    |
                                                      refine r_pick_f rfl rfl rfl rfl ?_
                                                      refine R_nil ?_
                                                      refine K_tn ?_
                                                      refine K_cond_t rfl ?_
                                                      refine K_seq ?_
                                                      refine R_region ?_
                                                      refine r_assign rfl rfl rfl ?_
                                                      refine R_nil ?_
                                                      refine K_tn ?_
                                                      refine K_ret ?_
                                                      refine K_tr ?_
                                                      refine K_done (H' := []) rfl rfl (.s (.tmp rfl) .z) (by repeat (first | exact .z | apply Rems.s Rem.z | apply Rems.s (Rem.s Rem.z) | apply Rems.s (Rem.s (Rem.s Rem.z)) | apply Rems.s (Rem.s (Rem.s (Rem.s Rem.z))) | apply Rems.s (Rem.s (Rem.s (Rem.s (Rem.s Rem.z)))) | apply Rems.s (Rem.s (Rem.s (Rem.s (Rem.s (Rem.s Rem.z))))) | apply Rems.s (Rem.s (Rem.s (Rem.s (Rem.s (Rem.s (Rem.s Rem.z)))))) | apply Rems.s (Rem.s (Rem.s (Rem.s (Rem.s (Rem.s (Rem.s (Rem.s Rem.z))))))) | apply Rems.s (Rem.s (Rem.s (Rem.s (Rem.s (Rem.s (Rem.s (Rem.s (Rem.s Rem.z)))))))) | apply Rems.s (Rem.s (Rem.s (Rem.s (Rem.s (Rem.s (Rem.s (Rem.s (Rem.s (Rem.s Rem.z))))))))))) ?_
                                                      refine ⟨?_, rfl⟩
                                                      rfl
                                                  · first
                                                    | (exfalso; first | omega | (have := hse1 (by omega); have := hsz2 (by omega); omega) | (simp_all; done))
                                                    |
                                                      refine r_pick_f rfl rfl rfl rfl ?_
                                                      refine R_nil ?_
                                                      refine K_tn ?_
                                                      refine K_cond_f rfl ?_
                                                      refine K_skip ?_
                                                      refine K_tn ?_
                                                      refine K_seq ?_
                                                      refine R_region ?_
                                                      refine r_assign rfl rfl rfl ?_
                                                      refine R_nil ?_
                                                      refine K_tn ?_
                                                      refine K_seq ?_
                                                      refine R_region ?_
                                                      refine r_move rfl rfl rfl ?_
                                                      refine r_move rfl rfl rfl ?_
                                                      refine r_callV cb_47 rfl rfl rfl rfl rfl (heldLX _ _ _ 1 _ _ _ (by omega)) (by first | exact insSelf _ _ | exact insApp1 _ _ _ | exact insApp2 _ _ _ | (repeat (first | exact .z | refine .s (.h .z) ?_ | refine .s (.h (.s .z)) ?_ | refine .s (.h (.s (.s .z))) ?_ | refine .s (.h (.s (.s (.s .z)))) ?_ | refine .s (.h (.s (.s (.s (.s .z))))) ?_ | refine .s (.h (.s (.s (.s (.s (.s .z)))))) ?_ | refine .s (.h (.s (.s (.s (.s (.s (.s .z))))))) ?_ | refine .s (.h (.s (.s (.s (.s (.s (.s (.s .z)))))))) ?_ | refine .s (.h (.s (.s (.s (.s (.s (.s (.s (.s .z))))))))) ?_ | refine .s (.x .z) ?_ | refine .s (.x (.s .z)) ?_ | refine .s (.x (.s (.s .z))) ?_ | refine .s (.x (.s (.s (.s .z)))) ?_ | refine .s (.x (.s (.s (.s (.s .z))))) ?_ | refine .s (.x (.s (.s (.s (.s (.s .z)))))) ?_ | refine .s (.x (.s (.s (.s (.s (.s (.s .z))))))) ?_))) ?_
                                                      refine r_assign rfl rfl rfl ?_
                                                      refine R_nil ?_
                                                      refine K_tn ?_
                                                      refine K_seq ?_
                                                      refine K_seq ?_
                                                      refine R_region ?_
                                                      refine r_move rfl rfl rfl ?_
                                                      refine s_lss rfl rfl rfl rfl (fun h115 => ?_) (fun h115 => ?_)
                                                      · first
                                                        | (exfalso; first | omega | (have := hse1 (by omega); have := hsz2 (by omega); omega) | (simp_all; done))
                                                        |
                                                          refine R_nil ?_
                                                          refine K_tn ?_
                                                          refine K_cond_t rfl ?_
                                                          refine K_seq ?_
                                                          refine R_region ?_
                                                          refine r_assign rfl rfl rfl ?_
                                                          refine R_nil ?_
                                                          refine K_tn ?_
                                                          refine K_ret ?_
                                                          refine K_tr ?_
                                                          refine K_done (H' := []) rfl rfl (.s (.tmp rfl) .z) (by repeat (first | exact .z | apply Rems.s Rem.z | apply Rems.s (Rem.s Rem.z) | apply Rems.s (Rem.s (Rem.s Rem.z)) | apply Rems.s (Rem.s (Rem.s (Rem.s Rem.z))) | apply Rems.s (Rem.s (Rem.s (Rem.s (Rem.s Rem.z)))) | apply Rems.s (Rem.s (Rem.s (Rem.s (Rem.s (Rem.s Rem.z))))) | apply Rems.s (Rem.s (Rem.s (Rem.s (Rem.s (Rem.s (Rem.s Rem.z)))))) | apply Rems.s (Rem.s (Rem.s (Rem.s (Rem.s (Rem.s (Rem.s (Rem.s Rem.z))))))) | apply Rems.s (Rem.s (Rem.s (Rem.s (Rem.s (Rem.s (Rem.s (Rem.s (Rem.s Rem.z)))))))) | apply Rems.s (Rem.s (Rem.s (Rem.s (Rem.s (Rem.s (Rem.s (Rem.s (Rem.s (Rem.s Rem.z))))))))))) ?_
                                                          refine ⟨?_, rfl⟩
                                                          rfl
                                                      · first
                                                        | (exfalso; first | omega | (have := hse1 (by omega); have := hsz2 (by omega); omega) | (simp_all; done))
                                                        |
                                                          refine R_nil ?_
                                                          refine K_tn ?_
                                                          refine K_cond_f rfl ?_
                                                          refine K_skip ?_
                                                          refine K_tn ?_
                                                          refine K_seq ?_
                                                          refine K_seq ?_
                                                          refine R_region ?_
                                                          refine r_move rfl rfl rfl ?_
                                                          refine r_move rfl rfl rfl ?_
                                                          refine s_neq rfl rfl rfl rfl (fun h118 => ?_) (fun h118 => ?_)
                                                          · first
                                                            | (exfalso; first | omega | (have := hse1 (by omega); have := hsz2 (by omega); omega) | (simp_all; done))
                                                            |
                                                              refine R_nil ?_
                                                              refine K_tn ?_
                                                              refine K_cond_t rfl ?_
                                                              refine K_seq ?_
                                                              refine R_region ?_
                                                              refine r_assign rfl rfl rfl ?_
                                                              refine R_nil ?_
                                                              refine K_tn ?_
                                                              refine K_ret ?_
                                                              refine K_tr ?_
                                                              refine K_done (H' := []) rfl rfl (.s (.tmp rfl) .z) (by repeat (first | exact .z | apply Rems.s Rem.z | apply Rems.s (Rem.s Rem.z) | apply Rems.s (Rem.s (Rem.s Rem.z)) | apply Rems.s (Rem.s (Rem.s (Rem.s Rem.z))) | apply Rems.s (Rem.s (Rem.s (Rem.s (Rem.s Rem.z)))) | apply Rems.s (Rem.s (Rem.s (Rem.s (Rem.s (Rem.s Rem.z))))) | apply Rems.s (Rem.s (Rem.s (Rem.s (Rem.s (Rem.s (Rem.s Rem.z)))))) | apply Rems.s (Rem.s (Rem.s (Rem.s (Rem.s (Rem.s (Rem.s (Rem.s Rem.z))))))) | apply Rems.s (Rem.s (Rem.s (Rem.s (Rem.s (Rem.s (Rem.s (Rem.s (Rem.s Rem.z)))))))) | apply Rems.s (Rem.s (Rem.s (Rem.s (Rem.s (Rem.s (Rem.s (Rem.s (Rem.s (Rem.s Rem.z))))))))))) ?_
                                                              refine ⟨?_, rfl⟩
                                                              rfl
                                                          · first
                                                            | (exfalso; first | omega | (have := hse1 (by omega); have := hsz2 (by omega); omega) | (simp_all; done))
                                                            |
                                                              refine R_nil ?_
                                                              refine K_tn ?_
                                                              refine K_cond_f rfl ?_
                                                              refine K_skip ?_
                                                              refine K_tn ?_
                                                              refine K_seq ?_
                                                              refine R_region ?_
                                                              refine r_assign rfl rfl rfl ?_
                                                              refine R_nil ?_
                                                              refine K_tn ?_
                                                              refine K_ret ?_
                                                              refine K_done (H' := []) rfl rfl (.s (.tmp rfl) .z) (by repeat (first | exact .z | apply Rems.s Rem.z | apply Rems.s (Rem.s Rem.z) | apply Rems.s (Rem.s (Rem.s Rem.z)) | apply Rems.s (Rem.s (Rem.s (Rem.s Rem.z))) | apply Rems.s (Rem.s (Rem.s (Rem.s (Rem.s Rem.z)))) | apply Rems.s (Rem.s (Rem.s (Rem.s (Rem.s (Rem.s Rem.z))))) | apply Rems.s (Rem.s (Rem.s (Rem.s (Rem.s (Rem.s (Rem.s Rem.z)))))) | apply Rems.s (Rem.s (Rem.s (Rem.s (Rem.s (Rem.s (Rem.s (Rem.s Rem.z))))))) | apply Rems.s (Rem.s (Rem.s (Rem.s (Rem.s (Rem.s (Rem.s (Rem.s (Rem.s Rem.z)))))))) | apply Rems.s (Rem.s (Rem.s (Rem.s (Rem.s (Rem.s (Rem.s (Rem.s (Rem.s (Rem.s Rem.z))))))))))) ?_
                                                              refine ⟨?_, rfl⟩
                                                              rfl
                                              · first
                                                | (exfalso; first | omega | (have := hse1 (by omega); have := hsz2 (by omega); omega) | (simp_all; done))
                                                |
                                                  refine r_not rfl rfl rfl ?_
                                                  refine r_move rfl rfl rfl ?_
                                                  refine r_skip rfl rfl ?_
                                                  refine r_skip rfl rfl ?_
                                                  refine r_skip rfl rfl ?_
                                                  refine r_pick_t rfl rfl rfl rfl ?_
                                                  refine R_nil ?_
                                                  refine K_tn ?_
                                                  refine K_cond_t rfl ?_
                                                  refine K_seq ?_
                                                  refine R_region ?_
                                                  refine r_assign rfl rfl rfl ?_
                                                  refine R_nil ?_
                                                  refine K_tn ?_
                                                  refine K_ret ?_
                                                  refine K_tr ?_
                                                  refine K_done (H' := []) rfl rfl (.s (.tmp rfl) .z) (by repeat (first | exact .z | apply Rems.s Rem.z | apply Rems.s (Rem.s Rem.z) | apply Rems.s (Rem.s (Rem.s Rem.z)) | apply Rems.s (Rem.s (Rem.s (Rem.s Rem.z))) | apply Rems.s (Rem.s (Rem.s (Rem.s (Rem.s Rem.z)))) | apply Rems.s (Rem.s (Rem.s (Rem.s (Rem.s (Rem.s Rem.z))))) | apply Rems.s (Rem.s (Rem.s (Rem.s (Rem.s (Rem.s (Rem.s Rem.z)))))) | apply Rems.s (Rem.s (Rem.s (Rem.s (Rem.s (Rem.s (Rem.s (Rem.s Rem.z))))))) | apply Rems.s (Rem.s (Rem.s (Rem.s (Rem.s (Rem.s (Rem.s (Rem.s (Rem.s Rem.z)))))))) | apply Rems.s (Rem.s (Rem.s (Rem.s (Rem.s (Rem.s (Rem.s (Rem.s (Rem.s (Rem.s Rem.z))))))))))) ?_
                                                  refine ⟨?_, rfl⟩
                                                  rfl
                              · first
                                | (exfalso; first | omega | (have := hse1 (by omega); have := hsz2 (by omega); omega) | (simp_all; done))
                                |
                                  refine r_not rfl rfl rfl ?_
                                  refine r_pick_f rfl rfl rfl rfl ?_
                                  refine r_move rfl rfl rfl ?_
                                  refine r_skip rfl rfl ?_
                                  refine r_skip rfl rfl ?_
                                  refine r_skip rfl rfl ?_
                                  refine r_pick_t rfl rfl rfl rfl ?_
                                  refine R_nil ?_
                                  refine K_tn ?_
                                  refine K_cond_t rfl ?_
                                  refine K_seq ?_
                                  refine R_region ?_
                                  refine r_assign rfl rfl rfl ?_
                                  refine R_nil ?_
                                  refine K_tn ?_
                                  refine K_ret ?_
                                  refine K_tr ?_
                                  refine K_done (H' := []) rfl rfl (.s (.tmp rfl) .z) (by repeat (first | exact .z | apply Rems.s Rem.z | apply Rems.s (Rem.s Rem.z) | apply Rems.s (Rem.s (Rem.s Rem.z)) | apply Rems.s (Rem.s (Rem.s (Rem.s Rem.z))) | apply Rems.s (Rem.s (Rem.s (Rem.s (Rem.s Rem.z)))) | apply Rems.s (Rem.s (Rem.s (Rem.s (Rem.s (Rem.s Rem.z))))) | apply Rems.s (Rem.s (Rem.s (Rem.s (Rem.s (Rem.s (Rem.s Rem.z)))))) | apply Rems.s (Rem.s (Rem.s (Rem.s (Rem.s (Rem.s (Rem.s (Rem.s Rem.z))))))) | apply Rems.s (Rem.s (Rem.s (Rem.s (Rem.s (Rem.s (Rem.s (Rem.s (Rem.s Rem.z)))))))) | apply Rems.s (Rem.s (Rem.s (Rem.s (Rem.s (Rem.s (Rem.s (Rem.s (Rem.s (Rem.s Rem.z))))))))))) ?_
                                  refine ⟨?_, rfl⟩
                                  rfl
                      · first
                        | (exfalso; first | omega | (have := hse1 (by omega); have := hsz2 (by omega); omega) | (simp_all; done))
                        |
                          refine r_not rfl rfl rfl ?_
                          refine R_nil ?_
                          refine K_tn ?_
                          refine K_cond_t rfl ?_
                          refine K_seq ?_
                          refine R_region ?_
                          refine r_assign rfl rfl rfl ?_
                          refine R_nil ?_
                          refine K_tn ?_
                          refine K_ret ?_
                          refine K_tr ?_
                          refine K_done (H' := []) rfl rfl (.s (.tmp rfl) .z) (by repeat (first | exact .z | apply Rems.s Rem.z | apply Rems.s (Rem.s Rem.z) | apply Rems.s (Rem.s (Rem.s Rem.z)) | apply Rems.s (Rem.s (Rem.s (Rem.s Rem.z))) | apply Rems.s (Rem.s (Rem.s (Rem.s (Rem.s Rem.z)))) | apply Rems.s (Rem.s (Rem.s (Rem.s (Rem.s (Rem.s Rem.z))))) | apply Rems.s (Rem.s (Rem.s (Rem.s (Rem.s (Rem.s (Rem.s Rem.z)))))) | apply Rems.s (Rem.s (Rem.s (Rem.s (Rem.s (Rem.s (Rem.s (Rem.s Rem.z))))))) | apply Rems.s (Rem.s (Rem.s (Rem.s (Rem.s (Rem.s (Rem.s (Rem.s (Rem.s Rem.z)))))))) | apply Rems.s (Rem.s (Rem.s (Rem.s (Rem.s (Rem.s (Rem.s (Rem.s (Rem.s (Rem.s Rem.z))))))))))) ?_
                          refine ⟨?_, rfl⟩
                          rfl
                  · first
                    | (exfalso; first | omega | (have := hse1 (by omega); have := hsz2 (by omega); omega) | (simp_all; done))
                    |
                      refine r_not rfl rfl rfl ?_
                      refine R_nil ?_
                      refine K_tn ?_
                      refine K_cond_t rfl ?_
                      refine K_seq ?_
                      refine R_region ?_
                      refine r_assign rfl rfl rfl ?_
                      refine R_nil ?_
                      refine K_tn ?_
                      refine K_ret ?_
                      refine K_tr ?_
                      refine K_done (H' := []) rfl rfl (.s (.tmp rfl) .z) (by repeat (first | exact .z | apply Rems.s Rem.z | apply Rems.s (Rem.s Rem.z) | apply Rems.s (Rem.s (Rem.s Rem.z)) | apply Rems.s (Rem.s (Rem.s (Rem.s Rem.z))) | apply Rems.s (Rem.s (Rem.s (Rem.s (Rem.s Rem.z)))) | apply Rems.s (Rem.s (Rem.s (Rem.s (Rem.s (Rem.s Rem.z))))) | apply Rems.s (Rem.s (Rem.s (Rem.s (Rem.s (Rem.s (Rem.s Rem.z)))))) | apply Rems.s (Rem.s (Rem.s (Rem.s (Rem.s (Rem.s (Rem.s (Rem.s Rem.z))))))) | apply Rems.s (Rem.s (Rem.s (Rem.s (Rem.s (Rem.s (Rem.s (Rem.s (Rem.s Rem.z)))))))) | apply Rems.s (Rem.s (Rem.s (Rem.s (Rem.s (Rem.s (Rem.s (Rem.s (Rem.s (Rem.s Rem.z))))))))))) ?_
                      refine ⟨?_, rfl⟩
                      rfl
          · first
            | (exfalso; first | omega | (have := hse1 (by omega); have := hsz2 (by omega); omega) | (simp_all; done))
            |
              refine r_not rfl rfl rfl ?_
              refine r_move rfl rfl rfl ?_
              refine r_skip rfl rfl ?_
              refine r_skip rfl rfl ?_
              refine r_skip rfl rfl ?_
              refine r_pick_t rfl rfl rfl rfl ?_
              refine R_nil ?_
              refine K_tn ?_
              refine K_cond_t rfl ?_
              refine K_seq ?_
              refine R_region ?_
              refine r_assign rfl rfl rfl ?_
              refine R_nil ?_
              refine K_tn ?_
              refine K_ret ?_
              refine K_tr ?_
              refine K_done (H' := []) rfl rfl (.s (.tmp rfl) .z) (by repeat (first | exact .z | apply Rems.s Rem.z | apply Rems.s (Rem.s Rem.z) | apply Rems.s (Rem.s (Rem.s Rem.z)) | apply Rems.s (Rem.s (Rem.s (Rem.s Rem.z))) | apply Rems.s (Rem.s (Rem.s (Rem.s (Rem.s Rem.z)))) | apply Rems.s (Rem.s (Rem.s (Rem.s (Rem.s (Rem.s Rem.z))))) | apply Rems.s (Rem.s (Rem.s (Rem.s (Rem.s (Rem.s (Rem.s Rem.z)))))) | apply Rems.s (Rem.s (Rem.s (Rem.s (Rem.s (Rem.s (Rem.s (Rem.s Rem.z))))))) | apply Rems.s (Rem.s (Rem.s (Rem.s (Rem.s (Rem.s (Rem.s (Rem.s (Rem.s Rem.z)))))))) | apply Rems.s (Rem.s (Rem.s (Rem.s (Rem.s (Rem.s (Rem.s (Rem.s (Rem.s (Rem.s Rem.z))))))))))) ?_
              refine ⟨?_, rfl⟩
              rfl

end Go.Proofs.Ytlkpkenbfaiinaa
