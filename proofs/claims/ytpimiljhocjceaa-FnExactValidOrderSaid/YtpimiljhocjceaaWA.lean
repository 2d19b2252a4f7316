/- Walks. -/
import Derived.Test.YtpimiljhocjceaaFacts
namespace Go.Proofs.Ytpimiljhocjceaa
open Go.Sl
set_option maxRecDepth 20000 in
theorem within (n lo hi : Int) : SpecV Try.prog 47 [.int .i64 n, .int .i64 lo, .int .i64 hi] [] (.bool (decide (lo ≤ n) && decide (n ≤ hi))) := by
  refine spec_of Try.func47 rfl Try.ntmps47 rfl (fun w0 => ?_)
  refine K_seq ?_
  refine R_region ?_
  refine r_assign rfl rfl rfl ?_
  refine R_nil ?_
  refine K_tn ?_
  refine K_seq ?_
  refine R_region ?_
  refine r_move rfl rfl rfl ?_
  refine r_move rfl rfl rfl ?_
  refine s_geq rfl rfl rfl rfl (fun h9 => ?_) (fun h9 => ?_)
  · first
    | (exfalso; omega)
    |
      refine r_move rfl rfl rfl ?_
      refine r_move rfl rfl rfl ?_
      refine r_move rfl rfl rfl ?_
      refine v_cmp rfl rfl rfl rfl (fun _ _ => c_leq) ?_
      refine r_pick_t rfl rfl rfl rfl ?_
      refine r_assign rfl rfl rfl ?_
      refine R_nil ?_
      refine K_tn ?_
      refine K_ret ?_
      exact K_done rfl rfl (.s (.tmp rfl) .z) (by repeat (first | exact .z | refine .s .z ?_ | refine .s (.s .z) ?_ | refine .s (.s (.s .z)) ?_ | refine .s (.s (.s (.s .z))) ?_ | refine .s (.s (.s (.s (.s .z)))) ?_ | refine .s (.s (.s (.s (.s (.s .z))))) ?_ | refine .s (.s (.s (.s (.s (.s (.s .z)))))) ?_ | refine .s (.s (.s (.s (.s (.s (.s (.s .z))))))) ?_ | refine .s (.s (.s (.s (.s (.s (.s (.s (.s .z)))))))) ?_ | refine .s (.s (.s (.s (.s (.s (.s (.s (.s (.s .z))))))))) ?_)) (⟨by simp [packV, *], rfl⟩)
  · first
    | (exfalso; omega)
    |
      refine r_move rfl rfl rfl ?_
      refine r_skip rfl rfl ?_
      refine r_skip rfl rfl ?_
      refine r_skip rfl rfl ?_
      refine r_pick_f rfl rfl rfl rfl ?_
      refine r_assign rfl rfl rfl ?_
      refine R_nil ?_
      refine K_tn ?_
      refine K_ret ?_
      exact K_done rfl rfl (.s (.tmp rfl) .z) (by repeat (first | exact .z | refine .s .z ?_ | refine .s (.s .z) ?_ | refine .s (.s (.s .z)) ?_ | refine .s (.s (.s (.s .z))) ?_ | refine .s (.s (.s (.s (.s .z)))) ?_ | refine .s (.s (.s (.s (.s (.s .z))))) ?_ | refine .s (.s (.s (.s (.s (.s (.s .z)))))) ?_ | refine .s (.s (.s (.s (.s (.s (.s (.s .z))))))) ?_ | refine .s (.s (.s (.s (.s (.s (.s (.s (.s .z)))))))) ?_ | refine .s (.s (.s (.s (.s (.s (.s (.s (.s (.s .z))))))))) ?_)) (⟨by simp [packV, *], rfl⟩)

set_option maxRecDepth 20000 in
theorem l00In (n lo hi : Int) : SpecV Try.prog 75 [.int .i64 n, .int .i64 lo, .int .i64 hi] [] (.bool (decide (lo ≤ n) && decide (n ≤ hi))) := by
  refine spec_of Try.func75 rfl Try.ntmps75 rfl (fun w0 => ?_)
  refine K_seq ?_
  refine R_region ?_
  refine r_assign rfl rfl rfl ?_
  refine R_nil ?_
  refine K_tn ?_
  refine K_seq ?_
  refine R_region ?_
  refine r_move rfl rfl rfl ?_
  refine r_move rfl rfl rfl ?_
  refine s_geq rfl rfl rfl rfl (fun h9 => ?_) (fun h9 => ?_)
  · first
    | (exfalso; omega)
    |
      refine r_move rfl rfl rfl ?_
      refine r_move rfl rfl rfl ?_
      refine r_move rfl rfl rfl ?_
      refine v_cmp rfl rfl rfl rfl (fun _ _ => c_leq) ?_
      refine r_pick_t rfl rfl rfl rfl ?_
      refine r_assign rfl rfl rfl ?_
      refine R_nil ?_
      refine K_tn ?_
      refine K_ret ?_
      exact K_done rfl rfl (.s (.tmp rfl) .z) (by repeat (first | exact .z | refine .s .z ?_ | refine .s (.s .z) ?_ | refine .s (.s (.s .z)) ?_ | refine .s (.s (.s (.s .z))) ?_ | refine .s (.s (.s (.s (.s .z)))) ?_ | refine .s (.s (.s (.s (.s (.s .z))))) ?_ | refine .s (.s (.s (.s (.s (.s (.s .z)))))) ?_ | refine .s (.s (.s (.s (.s (.s (.s (.s .z))))))) ?_ | refine .s (.s (.s (.s (.s (.s (.s (.s (.s .z)))))))) ?_ | refine .s (.s (.s (.s (.s (.s (.s (.s (.s (.s .z))))))))) ?_)) (⟨by simp [packV, *], rfl⟩)
  · first
    | (exfalso; omega)
    |
      refine r_move rfl rfl rfl ?_
      refine r_skip rfl rfl ?_
      refine r_skip rfl rfl ?_
      refine r_skip rfl rfl ?_
      refine r_pick_f rfl rfl rfl rfl ?_
      refine r_assign rfl rfl rfl ?_
      refine R_nil ?_
      refine K_tn ?_
      refine K_ret ?_
      exact K_done rfl rfl (.s (.tmp rfl) .z) (by repeat (first | exact .z | refine .s .z ?_ | refine .s (.s .z) ?_ | refine .s (.s (.s .z)) ?_ | refine .s (.s (.s (.s .z))) ?_ | refine .s (.s (.s (.s (.s .z)))) ?_ | refine .s (.s (.s (.s (.s (.s .z))))) ?_ | refine .s (.s (.s (.s (.s (.s (.s .z)))))) ?_ | refine .s (.s (.s (.s (.s (.s (.s (.s .z))))))) ?_ | refine .s (.s (.s (.s (.s (.s (.s (.s (.s .z)))))))) ?_ | refine .s (.s (.s (.s (.s (.s (.s (.s (.s (.s .z))))))))) ?_)) (⟨by simp [packV, *], rfl⟩)

set_option maxRecDepth 20000 in
theorem IsPart (a : Nat) : SpecV Try.prog 48 [.float .f32 a] [] (.bool (fle 0 a && fle a 1065353216)) := by
  refine spec_of Try.func48 rfl Try.ntmps48 rfl (fun w0 => ?_)
  refine K_seq ?_
  refine R_region ?_
  refine r_assign rfl rfl rfl ?_
  refine R_nil ?_
  refine K_tn ?_
  refine K_seq ?_
  refine R_region ?_
  refine r_move rfl rfl rfl ?_
  refine s_fcmp rfl rfl rfl rfl (fun _ _ => run_fge) (fun h4 => ?_) (fun h4 => ?_)
  · first
    | (exfalso; omega)
    |
      refine r_move rfl rfl rfl ?_
      refine r_move rfl rfl rfl ?_
      refine v_fcmp rfl rfl rfl rfl (fun _ _ => run_fle) ?_
      refine r_pick_t rfl rfl rfl rfl ?_
      refine r_assign rfl rfl rfl ?_
      refine R_nil ?_
      refine K_tn ?_
      refine K_ret ?_
      exact K_done rfl rfl (.s (.tmp rfl) .z) (by repeat (first | exact .z | refine .s .z ?_ | refine .s (.s .z) ?_ | refine .s (.s (.s .z)) ?_ | refine .s (.s (.s (.s .z))) ?_ | refine .s (.s (.s (.s (.s .z)))) ?_ | refine .s (.s (.s (.s (.s (.s .z))))) ?_ | refine .s (.s (.s (.s (.s (.s (.s .z)))))) ?_ | refine .s (.s (.s (.s (.s (.s (.s (.s .z))))))) ?_ | refine .s (.s (.s (.s (.s (.s (.s (.s (.s .z)))))))) ?_ | refine .s (.s (.s (.s (.s (.s (.s (.s (.s (.s .z))))))))) ?_)) (⟨by simp [packV, *], rfl⟩)
  · first
    | (exfalso; omega)
    |
      refine r_move rfl rfl rfl ?_
      refine r_skip rfl rfl ?_
      refine r_skip rfl rfl ?_
      refine r_pick_f rfl rfl rfl rfl ?_
      refine r_assign rfl rfl rfl ?_
      refine R_nil ?_
      refine K_tn ?_
      refine K_ret ?_
      exact K_done rfl rfl (.s (.tmp rfl) .z) (by repeat (first | exact .z | refine .s .z ?_ | refine .s (.s .z) ?_ | refine .s (.s (.s .z)) ?_ | refine .s (.s (.s (.s .z))) ?_ | refine .s (.s (.s (.s (.s .z)))) ?_ | refine .s (.s (.s (.s (.s (.s .z))))) ?_ | refine .s (.s (.s (.s (.s (.s (.s .z)))))) ?_ | refine .s (.s (.s (.s (.s (.s (.s (.s .z))))))) ?_ | refine .s (.s (.s (.s (.s (.s (.s (.s (.s .z)))))))) ?_ | refine .s (.s (.s (.s (.s (.s (.s (.s (.s (.s .z))))))))) ?_)) (⟨by simp [packV, *], rfl⟩)

set_option maxRecDepth 20000 in
theorem isPrice (a : Nat) : SpecV Try.prog 49 [.float .f32 a] [] (.bool (fle 0 a && fle a 1148846080)) := by
  refine spec_of Try.func49 rfl Try.ntmps49 rfl (fun w0 => ?_)
  refine K_seq ?_
  refine R_region ?_
  refine r_assign rfl rfl rfl ?_
  refine R_nil ?_
  refine K_tn ?_
  refine K_seq ?_
  refine R_region ?_
  refine r_move rfl rfl rfl ?_
  refine s_fcmp rfl rfl rfl rfl (fun _ _ => run_fge) (fun h4 => ?_) (fun h4 => ?_)
  · first
    | (exfalso; omega)
    |
      refine r_move rfl rfl rfl ?_
      refine r_move rfl rfl rfl ?_
      refine v_fcmp rfl rfl rfl rfl (fun _ _ => run_fle) ?_
      refine r_pick_t rfl rfl rfl rfl ?_
      refine r_assign rfl rfl rfl ?_
      refine R_nil ?_
      refine K_tn ?_
      refine K_ret ?_
      exact K_done rfl rfl (.s (.tmp rfl) .z) (by repeat (first | exact .z | refine .s .z ?_ | refine .s (.s .z) ?_ | refine .s (.s (.s .z)) ?_ | refine .s (.s (.s (.s .z))) ?_ | refine .s (.s (.s (.s (.s .z)))) ?_ | refine .s (.s (.s (.s (.s (.s .z))))) ?_ | refine .s (.s (.s (.s (.s (.s (.s .z)))))) ?_ | refine .s (.s (.s (.s (.s (.s (.s (.s .z))))))) ?_ | refine .s (.s (.s (.s (.s (.s (.s (.s (.s .z)))))))) ?_ | refine .s (.s (.s (.s (.s (.s (.s (.s (.s (.s .z))))))))) ?_)) (⟨by simp [packV, *], rfl⟩)
  · first
    | (exfalso; omega)
    |
      refine r_move rfl rfl rfl ?_
      refine r_skip rfl rfl ?_
      refine r_skip rfl rfl ?_
      refine r_pick_f rfl rfl rfl rfl ?_
      refine r_assign rfl rfl rfl ?_
      refine R_nil ?_
      refine K_tn ?_
      refine K_ret ?_
      exact K_done rfl rfl (.s (.tmp rfl) .z) (by repeat (first | exact .z | refine .s .z ?_ | refine .s (.s .z) ?_ | refine .s (.s (.s .z)) ?_ | refine .s (.s (.s (.s .z))) ?_ | refine .s (.s (.s (.s (.s .z)))) ?_ | refine .s (.s (.s (.s (.s (.s .z))))) ?_ | refine .s (.s (.s (.s (.s (.s (.s .z)))))) ?_ | refine .s (.s (.s (.s (.s (.s (.s (.s .z))))))) ?_ | refine .s (.s (.s (.s (.s (.s (.s (.s (.s .z)))))))) ?_ | refine .s (.s (.s (.s (.s (.s (.s (.s (.s (.s .z))))))))) ?_)) (⟨by simp [packV, *], rfl⟩)

set_option maxRecDepth 20000 in
theorem l01Part (a : Nat) : SpecV Try.prog 56 [.float .f32 a] [] (.bool (fle 0 a && fle a 1065353216)) := by
  refine spec_of Try.func56 rfl Try.ntmps56 rfl (fun w0 => ?_)
  refine K_seq ?_
  refine R_region ?_
  refine r_assign rfl rfl rfl ?_
  refine R_nil ?_
  refine K_tn ?_
  refine K_seq ?_
  refine R_region ?_
  refine r_move rfl rfl rfl ?_
  refine s_fcmp rfl rfl rfl rfl (fun _ _ => run_fge) (fun h4 => ?_) (fun h4 => ?_)
  · first
    | (exfalso; omega)
    |
      refine r_move rfl rfl rfl ?_
      refine r_move rfl rfl rfl ?_
      refine v_fcmp rfl rfl rfl rfl (fun _ _ => run_fle) ?_
      refine r_pick_t rfl rfl rfl rfl ?_
      refine r_assign rfl rfl rfl ?_
      refine R_nil ?_
      refine K_tn ?_
      refine K_ret ?_
      exact K_done rfl rfl (.s (.tmp rfl) .z) (by repeat (first | exact .z | refine .s .z ?_ | refine .s (.s .z) ?_ | refine .s (.s (.s .z)) ?_ | refine .s (.s (.s (.s .z))) ?_ | refine .s (.s (.s (.s (.s .z)))) ?_ | refine .s (.s (.s (.s (.s (.s .z))))) ?_ | refine .s (.s (.s (.s (.s (.s (.s .z)))))) ?_ | refine .s (.s (.s (.s (.s (.s (.s (.s .z))))))) ?_ | refine .s (.s (.s (.s (.s (.s (.s (.s (.s .z)))))))) ?_ | refine .s (.s (.s (.s (.s (.s (.s (.s (.s (.s .z))))))))) ?_)) (⟨by simp [packV, *], rfl⟩)
  · first
    | (exfalso; omega)
    |
      refine r_move rfl rfl rfl ?_
      refine r_skip rfl rfl ?_
      refine r_skip rfl rfl ?_
      refine r_pick_f rfl rfl rfl rfl ?_
      refine r_assign rfl rfl rfl ?_
      refine R_nil ?_
      refine K_tn ?_
      refine K_ret ?_
      exact K_done rfl rfl (.s (.tmp rfl) .z) (by repeat (first | exact .z | refine .s .z ?_ | refine .s (.s .z) ?_ | refine .s (.s (.s .z)) ?_ | refine .s (.s (.s (.s .z))) ?_ | refine .s (.s (.s (.s (.s .z)))) ?_ | refine .s (.s (.s (.s (.s (.s .z))))) ?_ | refine .s (.s (.s (.s (.s (.s (.s .z)))))) ?_ | refine .s (.s (.s (.s (.s (.s (.s (.s .z))))))) ?_ | refine .s (.s (.s (.s (.s (.s (.s (.s (.s .z)))))))) ?_ | refine .s (.s (.s (.s (.s (.s (.s (.s (.s (.s .z))))))))) ?_)) (⟨by simp [packV, *], rfl⟩)

set_option maxRecDepth 20000 in
theorem l05Price (a : Nat) : SpecV Try.prog 57 [.float .f32 a] [] (.bool (fle 0 a && fle a 1148846080)) := by
  refine spec_of Try.func57 rfl Try.ntmps57 rfl (fun w0 => ?_)
  refine K_seq ?_
  refine R_region ?_
  refine r_assign rfl rfl rfl ?_
  refine R_nil ?_
  refine K_tn ?_
  refine K_seq ?_
  refine R_region ?_
  refine r_move rfl rfl rfl ?_
  refine s_fcmp rfl rfl rfl rfl (fun _ _ => run_fge) (fun h4 => ?_) (fun h4 => ?_)
  · first
    | (exfalso; omega)
    |
      refine r_move rfl rfl rfl ?_
      refine r_move rfl rfl rfl ?_
      refine v_fcmp rfl rfl rfl rfl (fun _ _ => run_fle) ?_
      refine r_pick_t rfl rfl rfl rfl ?_
      refine r_assign rfl rfl rfl ?_
      refine R_nil ?_
      refine K_tn ?_
      refine K_ret ?_
      exact K_done rfl rfl (.s (.tmp rfl) .z) (by repeat (first | exact .z | refine .s .z ?_ | refine .s (.s .z) ?_ | refine .s (.s (.s .z)) ?_ | refine .s (.s (.s (.s .z))) ?_ | refine .s (.s (.s (.s (.s .z)))) ?_ | refine .s (.s (.s (.s (.s (.s .z))))) ?_ | refine .s (.s (.s (.s (.s (.s (.s .z)))))) ?_ | refine .s (.s (.s (.s (.s (.s (.s (.s .z))))))) ?_ | refine .s (.s (.s (.s (.s (.s (.s (.s (.s .z)))))))) ?_ | refine .s (.s (.s (.s (.s (.s (.s (.s (.s (.s .z))))))))) ?_)) (⟨by simp [packV, *], rfl⟩)
  · first
    | (exfalso; omega)
    |
      refine r_move rfl rfl rfl ?_
      refine r_skip rfl rfl ?_
      refine r_skip rfl rfl ?_
      refine r_pick_f rfl rfl rfl rfl ?_
      refine r_assign rfl rfl rfl ?_
      refine R_nil ?_
      refine K_tn ?_
      refine K_ret ?_
      exact K_done rfl rfl (.s (.tmp rfl) .z) (by repeat (first | exact .z | refine .s .z ?_ | refine .s (.s .z) ?_ | refine .s (.s (.s .z)) ?_ | refine .s (.s (.s (.s .z))) ?_ | refine .s (.s (.s (.s (.s .z)))) ?_ | refine .s (.s (.s (.s (.s (.s .z))))) ?_ | refine .s (.s (.s (.s (.s (.s (.s .z)))))) ?_ | refine .s (.s (.s (.s (.s (.s (.s (.s .z))))))) ?_ | refine .s (.s (.s (.s (.s (.s (.s (.s (.s .z)))))))) ?_ | refine .s (.s (.s (.s (.s (.s (.s (.s (.s (.s .z))))))))) ?_)) (⟨by simp [packV, *], rfl⟩)

set_option maxRecDepth 20000 in
theorem l05Order (b : Nat) (n : Int) (p q : Nat) (hn : -128 ≤ n ∧ n ≤ 127) (u : TypeId) (fr : Nat × Nat) : SpecV Try.prog 46 [.pointer (some ⟨b, 0, none⟩)] [(b, .cells [.int .i8 n, .float .f32 p, .float .f32 q].toArray u fr)] (.bool ((decide (0 ≤ n) && decide (n ≤ 16)) && (fle 0 p && fle p 1065353216) && (fle 0 q && fle q 1148846080))) := by
  refine spec_of Try.func46 rfl Try.ntmps46 rfl (fun w0 => ?_)
  refine K_seq ?_
  refine R_region ?_
  refine r_assign rfl rfl rfl ?_
  refine R_nil ?_
  refine K_tn ?_
  refine K_seq ?_
  refine R_region ?_
  refine r_move rfl rfl rfl ?_
  refine r_nilCheck rfl rfl rfl ?_
  refine r_fieldAddr fd_27_0 rfl rfl rfl ?_
  refine r_load ag_22 rfl rfl rfl (by first | exact .h .z | exact .h (.s .z) | exact .h (.s (.s .z)) | exact .h (.s (.s (.s .z))) | exact .h (.s (.s (.s (.s .z)))) | exact .h (.s (.s (.s (.s (.s .z))))) | exact .h (.s (.s (.s (.s (.s (.s .z)))))) | exact .h (.s (.s (.s (.s (.s (.s (.s .z))))))) | exact .h (.s (.s (.s (.s (.s (.s (.s (.s .z)))))))) | exact .x .z | exact .x (.s .z) | exact .x (.s (.s .z)) | exact .x (.s (.s (.s .z))) | exact .x (.s (.s (.s (.s .z)))) | exact .x (.s (.s (.s (.s (.s .z))))) | exact .x (.s (.s (.s (.s (.s (.s .z))))))) (by first | rfl) ?_
  refine r_convI ⟨_, un_22⟩ un_2 rfl rfl rfl (i64K (by omega) (by omega)) ?_
  refine s_callV cb_75 rfl rfl rfl rfl rfl (l00In _ _ _) (by repeat (first | exact .z | refine .s (.h .z) ?_ | refine .s (.h (.s .z)) ?_ | refine .s (.h (.s (.s .z))) ?_ | refine .s (.h (.s (.s (.s .z)))) ?_ | refine .s (.h (.s (.s (.s (.s .z))))) ?_ | refine .s (.h (.s (.s (.s (.s (.s .z)))))) ?_ | refine .s (.h (.s (.s (.s (.s (.s (.s .z))))))) ?_ | refine .s (.h (.s (.s (.s (.s (.s (.s (.s .z)))))))) ?_ | refine .s (.h (.s (.s (.s (.s (.s (.s (.s (.s .z))))))))) ?_ | refine .s (.x .z) ?_ | refine .s (.x (.s .z)) ?_ | refine .s (.x (.s (.s .z))) ?_ | refine .s (.x (.s (.s (.s .z)))) ?_ | refine .s (.x (.s (.s (.s (.s .z))))) ?_ | refine .s (.x (.s (.s (.s (.s (.s .z)))))) ?_ | refine .s (.x (.s (.s (.s (.s (.s (.s .z))))))) ?_)) (fun h8 => ?_) (fun h8 => ?_)
  · first
    | (exfalso; omega)
    |
      refine r_move rfl rfl rfl ?_
      refine r_move rfl rfl rfl ?_
      refine r_nilCheck rfl rfl rfl ?_
      refine r_fieldAddr fd_27_1 rfl rfl rfl ?_
      refine r_load ag_23 rfl rfl rfl (by first | exact .h .z | exact .h (.s .z) | exact .h (.s (.s .z)) | exact .h (.s (.s (.s .z))) | exact .h (.s (.s (.s (.s .z)))) | exact .h (.s (.s (.s (.s (.s .z))))) | exact .h (.s (.s (.s (.s (.s (.s .z)))))) | exact .h (.s (.s (.s (.s (.s (.s (.s .z))))))) | exact .h (.s (.s (.s (.s (.s (.s (.s (.s .z)))))))) | exact .x .z | exact .x (.s .z) | exact .x (.s (.s .z)) | exact .x (.s (.s (.s .z))) | exact .x (.s (.s (.s (.s .z)))) | exact .x (.s (.s (.s (.s (.s .z))))) | exact .x (.s (.s (.s (.s (.s (.s .z))))))) (by first | rfl) ?_
      refine s_callV cb_56 rfl rfl rfl rfl rfl (l01Part _) (by repeat (first | exact .z | refine .s (.h .z) ?_ | refine .s (.h (.s .z)) ?_ | refine .s (.h (.s (.s .z))) ?_ | refine .s (.h (.s (.s (.s .z)))) ?_ | refine .s (.h (.s (.s (.s (.s .z))))) ?_ | refine .s (.h (.s (.s (.s (.s (.s .z)))))) ?_ | refine .s (.h (.s (.s (.s (.s (.s (.s .z))))))) ?_ | refine .s (.h (.s (.s (.s (.s (.s (.s (.s .z)))))))) ?_ | refine .s (.h (.s (.s (.s (.s (.s (.s (.s (.s .z))))))))) ?_ | refine .s (.x .z) ?_ | refine .s (.x (.s .z)) ?_ | refine .s (.x (.s (.s .z))) ?_ | refine .s (.x (.s (.s (.s .z)))) ?_ | refine .s (.x (.s (.s (.s (.s .z))))) ?_ | refine .s (.x (.s (.s (.s (.s (.s .z)))))) ?_ | refine .s (.x (.s (.s (.s (.s (.s (.s .z))))))) ?_)) (fun h14 => ?_) (fun h14 => ?_)
      · first
        | (exfalso; omega)
        |
          refine r_pick_t rfl rfl rfl rfl ?_
          refine r_move rfl rfl rfl ?_
          refine r_move rfl rfl rfl ?_
          refine r_nilCheck rfl rfl rfl ?_
          refine r_fieldAddr fd_27_2 rfl rfl rfl ?_
          refine r_load ag_23 rfl rfl rfl (by first | exact .h .z | exact .h (.s .z) | exact .h (.s (.s .z)) | exact .h (.s (.s (.s .z))) | exact .h (.s (.s (.s (.s .z)))) | exact .h (.s (.s (.s (.s (.s .z))))) | exact .h (.s (.s (.s (.s (.s (.s .z)))))) | exact .h (.s (.s (.s (.s (.s (.s (.s .z))))))) | exact .h (.s (.s (.s (.s (.s (.s (.s (.s .z)))))))) | exact .x .z | exact .x (.s .z) | exact .x (.s (.s .z)) | exact .x (.s (.s (.s .z))) | exact .x (.s (.s (.s (.s .z)))) | exact .x (.s (.s (.s (.s (.s .z))))) | exact .x (.s (.s (.s (.s (.s (.s .z))))))) (by first | rfl) ?_
          refine r_callV cb_57 rfl rfl rfl rfl rfl (l05Price _) (by repeat (first | exact .z | refine .s (.h .z) ?_ | refine .s (.h (.s .z)) ?_ | refine .s (.h (.s (.s .z))) ?_ | refine .s (.h (.s (.s (.s .z)))) ?_ | refine .s (.h (.s (.s (.s (.s .z))))) ?_ | refine .s (.h (.s (.s (.s (.s (.s .z)))))) ?_ | refine .s (.h (.s (.s (.s (.s (.s (.s .z))))))) ?_ | refine .s (.h (.s (.s (.s (.s (.s (.s (.s .z)))))))) ?_ | refine .s (.h (.s (.s (.s (.s (.s (.s (.s (.s .z))))))))) ?_ | refine .s (.x .z) ?_ | refine .s (.x (.s .z)) ?_ | refine .s (.x (.s (.s .z))) ?_ | refine .s (.x (.s (.s (.s .z)))) ?_ | refine .s (.x (.s (.s (.s (.s .z))))) ?_ | refine .s (.x (.s (.s (.s (.s (.s .z)))))) ?_ | refine .s (.x (.s (.s (.s (.s (.s (.s .z))))))) ?_)) ?_
          refine r_pick_t rfl rfl rfl rfl ?_
          refine r_assign rfl rfl rfl ?_
          refine R_nil ?_
          refine K_tn ?_
          refine K_ret ?_
          exact K_done rfl rfl (.s (.tmp rfl) .z) (by repeat (first | exact .z | refine .s .z ?_ | refine .s (.s .z) ?_ | refine .s (.s (.s .z)) ?_ | refine .s (.s (.s (.s .z))) ?_ | refine .s (.s (.s (.s (.s .z)))) ?_ | refine .s (.s (.s (.s (.s (.s .z))))) ?_ | refine .s (.s (.s (.s (.s (.s (.s .z)))))) ?_ | refine .s (.s (.s (.s (.s (.s (.s (.s .z))))))) ?_ | refine .s (.s (.s (.s (.s (.s (.s (.s (.s .z)))))))) ?_ | refine .s (.s (.s (.s (.s (.s (.s (.s (.s (.s .z))))))))) ?_)) (⟨by simp [packV, *], rfl⟩)
      · first
        | (exfalso; omega)
        |
          refine r_pick_t rfl rfl rfl rfl ?_
          refine r_move rfl rfl rfl ?_
          refine r_skip rfl rfl ?_
          refine r_skip rfl rfl ?_
          refine r_skip rfl rfl ?_
          refine r_skip rfl rfl ?_
          refine r_skip rfl rfl ?_
          refine r_pick_f rfl rfl rfl rfl ?_
          refine r_assign rfl rfl rfl ?_
          refine R_nil ?_
          refine K_tn ?_
          refine K_ret ?_
          exact K_done rfl rfl (.s (.tmp rfl) .z) (by repeat (first | exact .z | refine .s .z ?_ | refine .s (.s .z) ?_ | refine .s (.s (.s .z)) ?_ | refine .s (.s (.s (.s .z))) ?_ | refine .s (.s (.s (.s (.s .z)))) ?_ | refine .s (.s (.s (.s (.s (.s .z))))) ?_ | refine .s (.s (.s (.s (.s (.s (.s .z)))))) ?_ | refine .s (.s (.s (.s (.s (.s (.s (.s .z))))))) ?_ | refine .s (.s (.s (.s (.s (.s (.s (.s (.s .z)))))))) ?_ | refine .s (.s (.s (.s (.s (.s (.s (.s (.s (.s .z))))))))) ?_)) (⟨by simp [packV, *], rfl⟩)
  · first
    | (exfalso; omega)
    |
      refine r_move rfl rfl rfl ?_
      refine r_skip rfl rfl ?_
      refine r_skip rfl rfl ?_
      refine r_skip rfl rfl ?_
      refine r_skip rfl rfl ?_
      refine r_skip rfl rfl ?_
      refine r_pick_f rfl rfl rfl rfl ?_
      refine r_move rfl rfl rfl ?_
      refine r_skip rfl rfl ?_
      refine r_skip rfl rfl ?_
      refine r_skip rfl rfl ?_
      refine r_skip rfl rfl ?_
      refine r_skip rfl rfl ?_
      refine r_pick_f rfl rfl rfl rfl ?_
      refine r_assign rfl rfl rfl ?_
      refine R_nil ?_
      refine K_tn ?_
      refine K_ret ?_
      exact K_done rfl rfl (.s (.tmp rfl) .z) (by repeat (first | exact .z | refine .s .z ?_ | refine .s (.s .z) ?_ | refine .s (.s (.s .z)) ?_ | refine .s (.s (.s (.s .z))) ?_ | refine .s (.s (.s (.s (.s .z)))) ?_ | refine .s (.s (.s (.s (.s (.s .z))))) ?_ | refine .s (.s (.s (.s (.s (.s (.s .z)))))) ?_ | refine .s (.s (.s (.s (.s (.s (.s (.s .z))))))) ?_ | refine .s (.s (.s (.s (.s (.s (.s (.s (.s .z)))))))) ?_ | refine .s (.s (.s (.s (.s (.s (.s (.s (.s (.s .z))))))))) ?_)) (⟨by simp [packV, *], rfl⟩)

set_option maxRecDepth 20000 in
theorem spec_ValidOrder (n : Int) (p q : Nat) (hn : -128 ≤ n ∧ n ≤ 127) : SpecV Try.prog 13 [.agg [.int .i8 n, .float .f32 p, .float .f32 q].toArray] [] (.bool ((decide (0 ≤ n) && decide (n ≤ 16)) && (fle 0 p && fle p 1065353216) && (fle 0 q && fle q 1148846080))) := by
  refine spec_of Try.func13 rfl Try.ntmps13 rfl (fun w0 => ?_)
  refine K_seq ?_
  refine R_region ?_
  refine r_box rfl rfl rfl rfl (fun b1 => ?_)
  refine r_assign rfl rfl rfl ?_
  refine R_nil ?_
  refine K_tn ?_
  refine K_seq ?_
  refine R_region ?_
  refine r_callV cb_46 rfl rfl rfl rfl rfl (l05Order _ _ _ _ (by assumption) _ _) (by repeat (first | exact .z | refine .s (.h .z) ?_ | refine .s (.h (.s .z)) ?_ | refine .s (.h (.s (.s .z))) ?_ | refine .s (.h (.s (.s (.s .z)))) ?_ | refine .s (.h (.s (.s (.s (.s .z))))) ?_ | refine .s (.h (.s (.s (.s (.s (.s .z)))))) ?_ | refine .s (.h (.s (.s (.s (.s (.s (.s .z))))))) ?_ | refine .s (.h (.s (.s (.s (.s (.s (.s (.s .z)))))))) ?_ | refine .s (.h (.s (.s (.s (.s (.s (.s (.s (.s .z))))))))) ?_ | refine .s (.x .z) ?_ | refine .s (.x (.s .z)) ?_ | refine .s (.x (.s (.s .z))) ?_ | refine .s (.x (.s (.s (.s .z)))) ?_ | refine .s (.x (.s (.s (.s (.s .z))))) ?_ | refine .s (.x (.s (.s (.s (.s (.s .z)))))) ?_ | refine .s (.x (.s (.s (.s (.s (.s (.s .z))))))) ?_)) ?_
  refine r_assign rfl rfl rfl ?_
  refine R_nil ?_
  refine K_tn ?_
  refine K_ret ?_
  exact K_done rfl rfl (.s (.tmp rfl) .z) (by repeat (first | exact .z | refine .s .z ?_ | refine .s (.s .z) ?_ | refine .s (.s (.s .z)) ?_ | refine .s (.s (.s (.s .z))) ?_ | refine .s (.s (.s (.s (.s .z)))) ?_ | refine .s (.s (.s (.s (.s (.s .z))))) ?_ | refine .s (.s (.s (.s (.s (.s (.s .z)))))) ?_ | refine .s (.s (.s (.s (.s (.s (.s (.s .z))))))) ?_ | refine .s (.s (.s (.s (.s (.s (.s (.s (.s .z)))))))) ?_ | refine .s (.s (.s (.s (.s (.s (.s (.s (.s (.s .z))))))))) ?_)) (⟨by simp [packV, *], rfl⟩)

set_option maxRecDepth 20000 in
theorem impl_ValidOrder (n : Int) (p q : Nat) (hn : -128 ≤ n ∧ n ≤ 127) : SpecV Try.prog 15 [.agg [.int .i8 n, .float .f32 p, .float .f32 q].toArray] [] (.bool ((decide (0 ≤ n) && decide (n ≤ 16)) && (fle 0 p && fle p 1065353216) && (fle 0 q && fle q 1148846080))) := by
  refine spec_of Try.func15 rfl Try.ntmps15 rfl (fun w0 => ?_)
  refine K_seq ?_
  refine R_region ?_
  refine r_box rfl rfl rfl rfl (fun b1 => ?_)
  refine r_assign rfl rfl rfl ?_
  refine R_nil ?_
  refine K_tn ?_
  refine K_seq ?_
  refine R_region ?_
  refine r_fieldAddr fd_27_0 rfl rfl rfl ?_
  refine r_load ag_22 rfl rfl rfl (by first | exact .h .z | exact .h (.s .z) | exact .h (.s (.s .z)) | exact .h (.s (.s (.s .z))) | exact .h (.s (.s (.s (.s .z)))) | exact .h (.s (.s (.s (.s (.s .z))))) | exact .h (.s (.s (.s (.s (.s (.s .z)))))) | exact .h (.s (.s (.s (.s (.s (.s (.s .z))))))) | exact .h (.s (.s (.s (.s (.s (.s (.s (.s .z)))))))) | exact .x .z | exact .x (.s .z) | exact .x (.s (.s .z)) | exact .x (.s (.s (.s .z))) | exact .x (.s (.s (.s (.s .z)))) | exact .x (.s (.s (.s (.s (.s .z))))) | exact .x (.s (.s (.s (.s (.s (.s .z))))))) (by first | rfl) ?_
  refine r_convI ⟨_, un_22⟩ un_2 rfl rfl rfl (i64K (by omega) (by omega)) ?_
  refine s_callV cb_47 rfl rfl rfl rfl rfl (within _ _ _) (by repeat (first | exact .z | refine .s (.h .z) ?_ | refine .s (.h (.s .z)) ?_ | refine .s (.h (.s (.s .z))) ?_ | refine .s (.h (.s (.s (.s .z)))) ?_ | refine .s (.h (.s (.s (.s (.s .z))))) ?_ | refine .s (.h (.s (.s (.s (.s (.s .z)))))) ?_ | refine .s (.h (.s (.s (.s (.s (.s (.s .z))))))) ?_ | refine .s (.h (.s (.s (.s (.s (.s (.s (.s .z)))))))) ?_ | refine .s (.h (.s (.s (.s (.s (.s (.s (.s (.s .z))))))))) ?_ | refine .s (.x .z) ?_ | refine .s (.x (.s .z)) ?_ | refine .s (.x (.s (.s .z))) ?_ | refine .s (.x (.s (.s (.s .z)))) ?_ | refine .s (.x (.s (.s (.s (.s .z))))) ?_ | refine .s (.x (.s (.s (.s (.s (.s .z)))))) ?_ | refine .s (.x (.s (.s (.s (.s (.s (.s .z))))))) ?_)) (fun h6 => ?_) (fun h6 => ?_)
  · first
    | (exfalso; omega)
    |
      refine r_move rfl rfl rfl ?_
      refine r_fieldAddr fd_27_1 rfl rfl rfl ?_
      refine r_load ag_23 rfl rfl rfl (by first | exact .h .z | exact .h (.s .z) | exact .h (.s (.s .z)) | exact .h (.s (.s (.s .z))) | exact .h (.s (.s (.s (.s .z)))) | exact .h (.s (.s (.s (.s (.s .z))))) | exact .h (.s (.s (.s (.s (.s (.s .z)))))) | exact .h (.s (.s (.s (.s (.s (.s (.s .z))))))) | exact .h (.s (.s (.s (.s (.s (.s (.s (.s .z)))))))) | exact .x .z | exact .x (.s .z) | exact .x (.s (.s .z)) | exact .x (.s (.s (.s .z))) | exact .x (.s (.s (.s (.s .z)))) | exact .x (.s (.s (.s (.s (.s .z))))) | exact .x (.s (.s (.s (.s (.s (.s .z))))))) (by first | rfl) ?_
      refine s_callV cb_48 rfl rfl rfl rfl rfl (IsPart _) (by repeat (first | exact .z | refine .s (.h .z) ?_ | refine .s (.h (.s .z)) ?_ | refine .s (.h (.s (.s .z))) ?_ | refine .s (.h (.s (.s (.s .z)))) ?_ | refine .s (.h (.s (.s (.s (.s .z))))) ?_ | refine .s (.h (.s (.s (.s (.s (.s .z)))))) ?_ | refine .s (.h (.s (.s (.s (.s (.s (.s .z))))))) ?_ | refine .s (.h (.s (.s (.s (.s (.s (.s (.s .z)))))))) ?_ | refine .s (.h (.s (.s (.s (.s (.s (.s (.s (.s .z))))))))) ?_ | refine .s (.x .z) ?_ | refine .s (.x (.s .z)) ?_ | refine .s (.x (.s (.s .z))) ?_ | refine .s (.x (.s (.s (.s .z)))) ?_ | refine .s (.x (.s (.s (.s (.s .z))))) ?_ | refine .s (.x (.s (.s (.s (.s (.s .z)))))) ?_ | refine .s (.x (.s (.s (.s (.s (.s (.s .z))))))) ?_)) (fun h10 => ?_) (fun h10 => ?_)
      · first
        | (exfalso; omega)
        |
          refine r_pick_t rfl rfl rfl rfl ?_
          refine r_move rfl rfl rfl ?_
          refine r_fieldAddr fd_27_2 rfl rfl rfl ?_
          refine r_load ag_23 rfl rfl rfl (by first | exact .h .z | exact .h (.s .z) | exact .h (.s (.s .z)) | exact .h (.s (.s (.s .z))) | exact .h (.s (.s (.s (.s .z)))) | exact .h (.s (.s (.s (.s (.s .z))))) | exact .h (.s (.s (.s (.s (.s (.s .z)))))) | exact .h (.s (.s (.s (.s (.s (.s (.s .z))))))) | exact .h (.s (.s (.s (.s (.s (.s (.s (.s .z)))))))) | exact .x .z | exact .x (.s .z) | exact .x (.s (.s .z)) | exact .x (.s (.s (.s .z))) | exact .x (.s (.s (.s (.s .z)))) | exact .x (.s (.s (.s (.s (.s .z))))) | exact .x (.s (.s (.s (.s (.s (.s .z))))))) (by first | rfl) ?_
          refine r_callV cb_49 rfl rfl rfl rfl rfl (isPrice _) (by repeat (first | exact .z | refine .s (.h .z) ?_ | refine .s (.h (.s .z)) ?_ | refine .s (.h (.s (.s .z))) ?_ | refine .s (.h (.s (.s (.s .z)))) ?_ | refine .s (.h (.s (.s (.s (.s .z))))) ?_ | refine .s (.h (.s (.s (.s (.s (.s .z)))))) ?_ | refine .s (.h (.s (.s (.s (.s (.s (.s .z))))))) ?_ | refine .s (.h (.s (.s (.s (.s (.s (.s (.s .z)))))))) ?_ | refine .s (.h (.s (.s (.s (.s (.s (.s (.s (.s .z))))))))) ?_ | refine .s (.x .z) ?_ | refine .s (.x (.s .z)) ?_ | refine .s (.x (.s (.s .z))) ?_ | refine .s (.x (.s (.s (.s .z)))) ?_ | refine .s (.x (.s (.s (.s (.s .z))))) ?_ | refine .s (.x (.s (.s (.s (.s (.s .z)))))) ?_ | refine .s (.x (.s (.s (.s (.s (.s (.s .z))))))) ?_)) ?_
          refine r_pick_t rfl rfl rfl rfl ?_
          refine r_assign rfl rfl rfl ?_
          refine R_nil ?_
          refine K_tn ?_
          refine K_ret ?_
          exact K_done rfl rfl (.s (.tmp rfl) .z) (by repeat (first | exact .z | refine .s .z ?_ | refine .s (.s .z) ?_ | refine .s (.s (.s .z)) ?_ | refine .s (.s (.s (.s .z))) ?_ | refine .s (.s (.s (.s (.s .z)))) ?_ | refine .s (.s (.s (.s (.s (.s .z))))) ?_ | refine .s (.s (.s (.s (.s (.s (.s .z)))))) ?_ | refine .s (.s (.s (.s (.s (.s (.s (.s .z))))))) ?_ | refine .s (.s (.s (.s (.s (.s (.s (.s (.s .z)))))))) ?_ | refine .s (.s (.s (.s (.s (.s (.s (.s (.s (.s .z))))))))) ?_)) (⟨by simp [packV, *], rfl⟩)
      · first
        | (exfalso; omega)
        |
          refine r_pick_t rfl rfl rfl rfl ?_
          refine r_move rfl rfl rfl ?_
          refine r_skip rfl rfl ?_
          refine r_skip rfl rfl ?_
          refine r_skip rfl rfl ?_
          refine r_pick_f rfl rfl rfl rfl ?_
          refine r_assign rfl rfl rfl ?_
          refine R_nil ?_
          refine K_tn ?_
          refine K_ret ?_
          exact K_done rfl rfl (.s (.tmp rfl) .z) (by repeat (first | exact .z | refine .s .z ?_ | refine .s (.s .z) ?_ | refine .s (.s (.s .z)) ?_ | refine .s (.s (.s (.s .z))) ?_ | refine .s (.s (.s (.s (.s .z)))) ?_ | refine .s (.s (.s (.s (.s (.s .z))))) ?_ | refine .s (.s (.s (.s (.s (.s (.s .z)))))) ?_ | refine .s (.s (.s (.s (.s (.s (.s (.s .z))))))) ?_ | refine .s (.s (.s (.s (.s (.s (.s (.s (.s .z)))))))) ?_ | refine .s (.s (.s (.s (.s (.s (.s (.s (.s (.s .z))))))))) ?_)) (⟨by simp [packV, *], rfl⟩)
  · first
    | (exfalso; omega)
    |
      refine r_move rfl rfl rfl ?_
      refine r_skip rfl rfl ?_
      refine r_skip rfl rfl ?_
      refine r_skip rfl rfl ?_
      refine r_pick_f rfl rfl rfl rfl ?_
      refine r_move rfl rfl rfl ?_
      refine r_skip rfl rfl ?_
      refine r_skip rfl rfl ?_
      refine r_skip rfl rfl ?_
      refine r_pick_f rfl rfl rfl rfl ?_
      refine r_assign rfl rfl rfl ?_
      refine R_nil ?_
      refine K_tn ?_
      refine K_ret ?_
      exact K_done rfl rfl (.s (.tmp rfl) .z) (by repeat (first | exact .z | refine .s .z ?_ | refine .s (.s .z) ?_ | refine .s (.s (.s .z)) ?_ | refine .s (.s (.s (.s .z))) ?_ | refine .s (.s (.s (.s (.s .z)))) ?_ | refine .s (.s (.s (.s (.s (.s .z))))) ?_ | refine .s (.s (.s (.s (.s (.s (.s .z)))))) ?_ | refine .s (.s (.s (.s (.s (.s (.s (.s .z))))))) ?_ | refine .s (.s (.s (.s (.s (.s (.s (.s (.s .z)))))))) ?_ | refine .s (.s (.s (.s (.s (.s (.s (.s (.s (.s .z))))))))) ?_)) (⟨by simp [packV, *], rfl⟩)

set_option maxRecDepth 20000 in
theorem toOrder (n : Int) (p q : Nat) : SpecV Try.prog 14 [.agg [.int .i8 n, .float .f32 p, .float .f32 q].toArray] [] (.agg [.int .i8 n, .float .f32 p, .float .f32 q].toArray) := by
  refine spec_of Try.func14 rfl Try.ntmps14 rfl (fun w0 => ?_)
  refine K_seq ?_
  refine R_region ?_
  refine r_box rfl rfl rfl rfl (fun b1 => ?_)
  refine r_alloc zr_27 rfl rfl (fun b2 => ?_)
  refine R_nil ?_
  refine K_tn ?_
  refine K_seq ?_
  refine R_region ?_
  refine r_alloc zr_27 rfl rfl (fun b3 => ?_)
  refine R_nil ?_
  refine K_tn ?_
  refine K_seq ?_
  refine R_region ?_
  refine r_fieldAddr fd_25_0 rfl rfl rfl ?_
  refine r_load ag_22 rfl rfl rfl (by first | exact .h .z | exact .h (.s .z) | exact .h (.s (.s .z)) | exact .h (.s (.s (.s .z))) | exact .h (.s (.s (.s (.s .z)))) | exact .h (.s (.s (.s (.s (.s .z))))) | exact .h (.s (.s (.s (.s (.s (.s .z)))))) | exact .h (.s (.s (.s (.s (.s (.s (.s .z))))))) | exact .h (.s (.s (.s (.s (.s (.s (.s (.s .z)))))))) | exact .x .z | exact .x (.s .z) | exact .x (.s (.s .z)) | exact .x (.s (.s (.s .z))) | exact .x (.s (.s (.s (.s .z)))) | exact .x (.s (.s (.s (.s (.s .z))))) | exact .x (.s (.s (.s (.s (.s (.s .z))))))) (by first | rfl) ?_
  refine r_fieldAddr fd_27_0 rfl rfl rfl ?_
  refine r_store sz_22 rfl rfl rfl rfl (by first | exact .z | exact (.s .z) | exact (.s (.s .z)) | exact (.s (.s (.s .z))) | exact (.s (.s (.s (.s .z)))) | exact (.s (.s (.s (.s (.s .z))))) | exact (.s (.s (.s (.s (.s (.s .z)))))) | exact (.s (.s (.s (.s (.s (.s (.s .z))))))) | exact (.s (.s (.s (.s (.s (.s (.s (.s .z)))))))) | exact (.s (.s (.s (.s (.s (.s (.s (.s (.s .z)))))))))) (by first | rfl) ?_
  refine R_nil ?_
  refine K_tn ?_
  refine K_seq ?_
  refine R_region ?_
  refine r_fieldAddr fd_25_1 rfl rfl rfl ?_
  refine r_load ag_23 rfl rfl rfl (by first | exact .h .z | exact .h (.s .z) | exact .h (.s (.s .z)) | exact .h (.s (.s (.s .z))) | exact .h (.s (.s (.s (.s .z)))) | exact .h (.s (.s (.s (.s (.s .z))))) | exact .h (.s (.s (.s (.s (.s (.s .z)))))) | exact .h (.s (.s (.s (.s (.s (.s (.s .z))))))) | exact .h (.s (.s (.s (.s (.s (.s (.s (.s .z)))))))) | exact .x .z | exact .x (.s .z) | exact .x (.s (.s .z)) | exact .x (.s (.s (.s .z))) | exact .x (.s (.s (.s (.s .z)))) | exact .x (.s (.s (.s (.s (.s .z))))) | exact .x (.s (.s (.s (.s (.s (.s .z))))))) (by first | rfl) ?_
  refine r_fieldAddr fd_27_1 rfl rfl rfl ?_
  refine r_store sz_23 rfl rfl rfl rfl (by first | exact .z | exact (.s .z) | exact (.s (.s .z)) | exact (.s (.s (.s .z))) | exact (.s (.s (.s (.s .z)))) | exact (.s (.s (.s (.s (.s .z))))) | exact (.s (.s (.s (.s (.s (.s .z)))))) | exact (.s (.s (.s (.s (.s (.s (.s .z))))))) | exact (.s (.s (.s (.s (.s (.s (.s (.s .z)))))))) | exact (.s (.s (.s (.s (.s (.s (.s (.s (.s .z)))))))))) (by first | rfl) ?_
  refine R_nil ?_
  refine K_tn ?_
  refine K_seq ?_
  refine R_region ?_
  refine r_fieldAddr fd_25_2 rfl rfl rfl ?_
  refine r_load ag_23 rfl rfl rfl (by first | exact .h .z | exact .h (.s .z) | exact .h (.s (.s .z)) | exact .h (.s (.s (.s .z))) | exact .h (.s (.s (.s (.s .z)))) | exact .h (.s (.s (.s (.s (.s .z))))) | exact .h (.s (.s (.s (.s (.s (.s .z)))))) | exact .h (.s (.s (.s (.s (.s (.s (.s .z))))))) | exact .h (.s (.s (.s (.s (.s (.s (.s (.s .z)))))))) | exact .x .z | exact .x (.s .z) | exact .x (.s (.s .z)) | exact .x (.s (.s (.s .z))) | exact .x (.s (.s (.s (.s .z)))) | exact .x (.s (.s (.s (.s (.s .z))))) | exact .x (.s (.s (.s (.s (.s (.s .z))))))) (by first | rfl) ?_
  refine r_fieldAddr fd_27_2 rfl rfl rfl ?_
  refine r_store sz_23 rfl rfl rfl rfl (by first | exact .z | exact (.s .z) | exact (.s (.s .z)) | exact (.s (.s (.s .z))) | exact (.s (.s (.s (.s .z)))) | exact (.s (.s (.s (.s (.s .z))))) | exact (.s (.s (.s (.s (.s (.s .z)))))) | exact (.s (.s (.s (.s (.s (.s (.s .z))))))) | exact (.s (.s (.s (.s (.s (.s (.s (.s .z)))))))) | exact (.s (.s (.s (.s (.s (.s (.s (.s (.s .z)))))))))) (by first | rfl) ?_
  refine R_nil ?_
  refine K_tn ?_
  refine K_seq ?_
  refine R_region ?_
  refine r_loadA ag_27 sz_27 rfl rfl rfl (by first | exact .h .z | exact .h (.s .z) | exact .h (.s (.s .z)) | exact .h (.s (.s (.s .z))) | exact .h (.s (.s (.s (.s .z)))) | exact .h (.s (.s (.s (.s (.s .z))))) | exact .h (.s (.s (.s (.s (.s (.s .z)))))) | exact .h (.s (.s (.s (.s (.s (.s (.s .z))))))) | exact .h (.s (.s (.s (.s (.s (.s (.s (.s .z)))))))) | exact .x .z | exact .x (.s .z) | exact .x (.s (.s .z)) | exact .x (.s (.s (.s .z))) | exact .x (.s (.s (.s (.s .z)))) | exact .x (.s (.s (.s (.s (.s .z))))) | exact .x (.s (.s (.s (.s (.s (.s .z))))))) (by first | rfl) ?_
  refine r_storeA sz_27 rfl rfl rfl (by first | rfl) (by first | rfl) (by first | exact .z | exact (.s .z) | exact (.s (.s .z)) | exact (.s (.s (.s .z))) | exact (.s (.s (.s (.s .z)))) | exact (.s (.s (.s (.s (.s .z))))) | exact (.s (.s (.s (.s (.s (.s .z)))))) | exact (.s (.s (.s (.s (.s (.s (.s .z))))))) | exact (.s (.s (.s (.s (.s (.s (.s (.s .z)))))))) | exact (.s (.s (.s (.s (.s (.s (.s (.s (.s .z)))))))))) (by first | rfl) ?_
  refine R_nil ?_
  refine K_tn ?_
  refine K_ret ?_
  exact K_done rfl rfl (.s (.cellA ag_27 sz_27 rfl (by first | exact .h .z | exact .h (.s .z) | exact .h (.s (.s .z)) | exact .h (.s (.s (.s .z))) | exact .h (.s (.s (.s (.s .z)))) | exact .h (.s (.s (.s (.s (.s .z))))) | exact .h (.s (.s (.s (.s (.s (.s .z)))))) | exact .h (.s (.s (.s (.s (.s (.s (.s .z))))))) | exact .h (.s (.s (.s (.s (.s (.s (.s (.s .z)))))))) | exact .x .z | exact .x (.s .z) | exact .x (.s (.s .z)) | exact .x (.s (.s (.s .z))) | exact .x (.s (.s (.s (.s .z)))) | exact .x (.s (.s (.s (.s (.s .z))))) | exact .x (.s (.s (.s (.s (.s (.s .z))))))) (by first | rfl)) .z) (by repeat (first | exact .z | refine .s .z ?_ | refine .s (.s .z) ?_ | refine .s (.s (.s .z)) ?_ | refine .s (.s (.s (.s .z))) ?_ | refine .s (.s (.s (.s (.s .z)))) ?_ | refine .s (.s (.s (.s (.s (.s .z))))) ?_ | refine .s (.s (.s (.s (.s (.s (.s .z)))))) ?_ | refine .s (.s (.s (.s (.s (.s (.s (.s .z))))))) ?_ | refine .s (.s (.s (.s (.s (.s (.s (.s (.s .z)))))))) ?_ | refine .s (.s (.s (.s (.s (.s (.s (.s (.s (.s .z))))))))) ?_)) (⟨rfl, rfl⟩)

set_option maxRecDepth 20000 in
theorem law_ValidOrder (n : Int) (p q : Nat) (hn : -128 ≤ n ∧ n ≤ 127) : SpecV Try.prog 3 [.agg [.int .i8 n, .float .f32 p, .float .f32 q].toArray] [] (.bool true) := by
  refine spec_of Try.func3 rfl Try.ntmps3 rfl (fun w0 => ?_)
  refine K_seq ?_
  refine R_region ?_
  refine r_box rfl rfl rfl rfl (fun b1 => ?_)
  refine r_assign rfl rfl rfl ?_
  refine R_nil ?_
  refine K_tn ?_
  refine K_seq ?_
  refine R_region ?_
  refine r_loadA ag_25 sz_25 rfl rfl rfl (by first | exact .h .z | exact .h (.s .z) | exact .h (.s (.s .z)) | exact .h (.s (.s (.s .z))) | exact .h (.s (.s (.s (.s .z)))) | exact .h (.s (.s (.s (.s (.s .z))))) | exact .h (.s (.s (.s (.s (.s (.s .z)))))) | exact .h (.s (.s (.s (.s (.s (.s (.s .z))))))) | exact .h (.s (.s (.s (.s (.s (.s (.s (.s .z)))))))) | exact .x .z | exact .x (.s .z) | exact .x (.s (.s .z)) | exact .x (.s (.s (.s .z))) | exact .x (.s (.s (.s (.s .z)))) | exact .x (.s (.s (.s (.s (.s .z))))) | exact .x (.s (.s (.s (.s (.s (.s .z))))))) (by first | rfl) ?_
  refine r_callV cb_14 rfl rfl rfl rfl rfl (toOrder _ _ _) (by repeat (first | exact .z | refine .s (.h .z) ?_ | refine .s (.h (.s .z)) ?_ | refine .s (.h (.s (.s .z))) ?_ | refine .s (.h (.s (.s (.s .z)))) ?_ | refine .s (.h (.s (.s (.s (.s .z))))) ?_ | refine .s (.h (.s (.s (.s (.s (.s .z)))))) ?_ | refine .s (.h (.s (.s (.s (.s (.s (.s .z))))))) ?_ | refine .s (.h (.s (.s (.s (.s (.s (.s (.s .z)))))))) ?_ | refine .s (.h (.s (.s (.s (.s (.s (.s (.s (.s .z))))))))) ?_ | refine .s (.x .z) ?_ | refine .s (.x (.s .z)) ?_ | refine .s (.x (.s (.s .z))) ?_ | refine .s (.x (.s (.s (.s .z)))) ?_ | refine .s (.x (.s (.s (.s (.s .z))))) ?_ | refine .s (.x (.s (.s (.s (.s (.s .z)))))) ?_ | refine .s (.x (.s (.s (.s (.s (.s (.s .z))))))) ?_)) ?_
  refine r_callV cb_13 rfl rfl rfl rfl rfl (spec_ValidOrder _ _ _ (by assumption)) (by repeat (first | exact .z | refine .s (.h .z) ?_ | refine .s (.h (.s .z)) ?_ | refine .s (.h (.s (.s .z))) ?_ | refine .s (.h (.s (.s (.s .z)))) ?_ | refine .s (.h (.s (.s (.s (.s .z))))) ?_ | refine .s (.h (.s (.s (.s (.s (.s .z)))))) ?_ | refine .s (.h (.s (.s (.s (.s (.s (.s .z))))))) ?_ | refine .s (.h (.s (.s (.s (.s (.s (.s (.s .z)))))))) ?_ | refine .s (.h (.s (.s (.s (.s (.s (.s (.s (.s .z))))))))) ?_ | refine .s (.x .z) ?_ | refine .s (.x (.s .z)) ?_ | refine .s (.x (.s (.s .z))) ?_ | refine .s (.x (.s (.s (.s .z)))) ?_ | refine .s (.x (.s (.s (.s (.s .z))))) ?_ | refine .s (.x (.s (.s (.s (.s (.s .z)))))) ?_ | refine .s (.x (.s (.s (.s (.s (.s (.s .z))))))) ?_)) ?_
  refine r_assign rfl rfl rfl ?_
  refine R_nil ?_
  refine K_tn ?_
  refine K_seq ?_
  refine R_region ?_
  refine r_loadA ag_25 sz_25 rfl rfl rfl (by first | exact .h .z | exact .h (.s .z) | exact .h (.s (.s .z)) | exact .h (.s (.s (.s .z))) | exact .h (.s (.s (.s (.s .z)))) | exact .h (.s (.s (.s (.s (.s .z))))) | exact .h (.s (.s (.s (.s (.s (.s .z)))))) | exact .h (.s (.s (.s (.s (.s (.s (.s .z))))))) | exact .h (.s (.s (.s (.s (.s (.s (.s (.s .z)))))))) | exact .x .z | exact .x (.s .z) | exact .x (.s (.s .z)) | exact .x (.s (.s (.s .z))) | exact .x (.s (.s (.s (.s .z)))) | exact .x (.s (.s (.s (.s (.s .z))))) | exact .x (.s (.s (.s (.s (.s (.s .z))))))) (by first | rfl) ?_
  refine r_callV cb_14 rfl rfl rfl rfl rfl (toOrder _ _ _) (by repeat (first | exact .z | refine .s (.h .z) ?_ | refine .s (.h (.s .z)) ?_ | refine .s (.h (.s (.s .z))) ?_ | refine .s (.h (.s (.s (.s .z)))) ?_ | refine .s (.h (.s (.s (.s (.s .z))))) ?_ | refine .s (.h (.s (.s (.s (.s (.s .z)))))) ?_ | refine .s (.h (.s (.s (.s (.s (.s (.s .z))))))) ?_ | refine .s (.h (.s (.s (.s (.s (.s (.s (.s .z)))))))) ?_ | refine .s (.h (.s (.s (.s (.s (.s (.s (.s (.s .z))))))))) ?_ | refine .s (.x .z) ?_ | refine .s (.x (.s .z)) ?_ | refine .s (.x (.s (.s .z))) ?_ | refine .s (.x (.s (.s (.s .z)))) ?_ | refine .s (.x (.s (.s (.s (.s .z))))) ?_ | refine .s (.x (.s (.s (.s (.s (.s .z)))))) ?_ | refine .s (.x (.s (.s (.s (.s (.s (.s .z))))))) ?_)) ?_
  refine r_callV cb_15 rfl rfl rfl rfl rfl (impl_ValidOrder _ _ _ (by assumption)) (by repeat (first | exact .z | refine .s (.h .z) ?_ | refine .s (.h (.s .z)) ?_ | refine .s (.h (.s (.s .z))) ?_ | refine .s (.h (.s (.s (.s .z)))) ?_ | refine .s (.h (.s (.s (.s (.s .z))))) ?_ | refine .s (.h (.s (.s (.s (.s (.s .z)))))) ?_ | refine .s (.h (.s (.s (.s (.s (.s (.s .z))))))) ?_ | refine .s (.h (.s (.s (.s (.s (.s (.s (.s .z)))))))) ?_ | refine .s (.h (.s (.s (.s (.s (.s (.s (.s (.s .z))))))))) ?_ | refine .s (.x .z) ?_ | refine .s (.x (.s .z)) ?_ | refine .s (.x (.s (.s .z))) ?_ | refine .s (.x (.s (.s (.s .z)))) ?_ | refine .s (.x (.s (.s (.s (.s .z))))) ?_ | refine .s (.x (.s (.s (.s (.s (.s .z)))))) ?_ | refine .s (.x (.s (.s (.s (.s (.s (.s .z))))))) ?_)) ?_
  refine r_assign rfl rfl rfl ?_
  refine R_nil ?_
  refine K_tn ?_
  refine K_seq ?_
  refine K_seq ?_
  refine R_region ?_
  refine r_move rfl rfl rfl ?_
  refine r_move rfl rfl rfl ?_
  refine r_neB un_4 rfl rfl rfl rfl ?_
  refine K_split (d := 13) rfl (fun h13 => ?_) (fun h13 => ?_)
  · first
    | (exfalso; simp at h13; done)
    |
      refine R_nil ?_
      refine K_tn ?_
      refine K_cond_t rfl ?_
      refine K_seq ?_
      refine R_region ?_
      refine r_assign rfl rfl rfl ?_
      refine R_nil ?_
      refine K_tn ?_
      refine K_ret ?_
      refine K_tr ?_
      exact K_done rfl rfl (.s (.tmp rfl) .z) (by repeat (first | exact .z | refine .s .z ?_ | refine .s (.s .z) ?_ | refine .s (.s (.s .z)) ?_ | refine .s (.s (.s (.s .z))) ?_ | refine .s (.s (.s (.s (.s .z)))) ?_ | refine .s (.s (.s (.s (.s (.s .z))))) ?_ | refine .s (.s (.s (.s (.s (.s (.s .z)))))) ?_ | refine .s (.s (.s (.s (.s (.s (.s (.s .z))))))) ?_ | refine .s (.s (.s (.s (.s (.s (.s (.s (.s .z)))))))) ?_ | refine .s (.s (.s (.s (.s (.s (.s (.s (.s (.s .z))))))))) ?_)) (⟨by simp [packV, *], rfl⟩)
  · first
    | (exfalso; simp at h13; done)
    |
      refine R_nil ?_
      refine K_tn ?_
      refine K_cond_f rfl ?_
      refine K_skip ?_
      refine K_tn ?_
      refine K_seq ?_
      refine R_region ?_
      refine r_assign rfl rfl rfl ?_
      refine R_nil ?_
      refine K_tn ?_
      refine K_ret ?_
      exact K_done rfl rfl (.s (.tmp rfl) .z) (by repeat (first | exact .z | refine .s .z ?_ | refine .s (.s .z) ?_ | refine .s (.s (.s .z)) ?_ | refine .s (.s (.s (.s .z))) ?_ | refine .s (.s (.s (.s (.s .z)))) ?_ | refine .s (.s (.s (.s (.s (.s .z))))) ?_ | refine .s (.s (.s (.s (.s (.s (.s .z)))))) ?_ | refine .s (.s (.s (.s (.s (.s (.s (.s .z))))))) ?_ | refine .s (.s (.s (.s (.s (.s (.s (.s (.s .z)))))))) ?_ | refine .s (.s (.s (.s (.s (.s (.s (.s (.s (.s .z))))))))) ?_)) (⟨by simp [packV, *], rfl⟩)

end Go.Proofs.Ytpimiljhocjceaa
