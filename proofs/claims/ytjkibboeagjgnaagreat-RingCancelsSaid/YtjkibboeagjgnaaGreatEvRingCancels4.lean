/- Paths of the law RingCancels, each under its conditions. -/
import Derived.Test.YtjkibboeagjgnaaGreatEvRingCancels0
namespace Go.Proofs.YtjkibboeagjgnaaGreat.ringCancels
open Go.Ev

noncomputable def pins12 (aux : Int) : List (Nat × Value) := [(0, .int .u64 aux), (0, .int .u64 (aux + 1)), (100, .int .u8 2), (11, .bool false), (0, .int .i64 (aux + 1)), (160, .int .i64 (aux + 1)), (202, .bool false), (1, .int .u8 2), (1, .bool true), (2, .int .u8 2), (5, .bool true), (4, .bool false), (0, .bool true)]
noncomputable def pairs12 (user target flags aux by_ : Int) : List (Value × Value) := [(.bool (ieq target target), .bool true), (.bool (ieq 77 target), .bool false), (.bool (ieq user target), .bool true), (.int .u8 (Int.tmod flags 3), .int .u8 2), (.bool (ieq by_ user), .bool true), (.int .u8 (Int.tmod flags 3), .int .u8 2), (.bool (!(ieq user by_)), .bool false), (.int .i64 (wrapK .i64 (0 + (aux + 1))), .int .i64 (aux + 1)), (.int .i64 (wrapK .i64 (aux + 1)), .int .i64 (aux + 1)), (.bool (ilt 1073741824 (aux + 1)), .bool false), (.int .u8 (Int.tmod flags 3), .int .u8 2), (.int .u64 (wrapK .u64 (1 + aux)), .int .u64 (aux + 1)), (.int .u64 (wrapK .u64 aux), .int .u64 aux)]
set_option maxRecDepth 100000 in
theorem run12 (user target flags aux by_ : Int) : fin (rn user target flags aux by_ 377 (pins12 aux)) = wantP (rn user target flags aux by_ 377 (pins12 aux)) (pairs12 user target flags aux by_) (trues (rn user target flags aux by_ 377 (pins12 aux))) := by kernel_rfl
set_option maxRecDepth 100000 in
theorem path12 : ∀ (user target flags aux by_ : Int), InRange user target flags aux by_ → (flags % 3) = 2 → (!(ieq user by_)) = false → (ieq user target) = true → (ieq 77 target) = false → Goal user target flags aux by_ := by
  intro user target flags aux by_ rg f0 f1 f2 f3
  obtain ⟨r0, s0, r1, s1, r2, s2, r3, s3, r4, s4⟩ := rg
  have f1 := ieq_t.mp (not_f.mp f1)
  have f2 := ieq_t.mp f2
  have f3 := ieq_f.mp f3
  exact goal (run12 user target flags aux by_) (.cons (congrArg Value.bool ((ieq_t.mpr (by omega)))) (.cons (congrArg Value.bool ((ieq_f.mpr (by omega)))) (.cons (congrArg Value.bool ((ieq_t.mpr (by omega)))) (.cons (congrArg (Value.int .u8) ((Int.tmod_eq_emod_of_nonneg (by omega)).trans (by omega))) (.cons (congrArg Value.bool ((ieq_t.mpr (by omega)))) (.cons (congrArg (Value.int .u8) ((Int.tmod_eq_emod_of_nonneg (by omega)).trans (by omega))) (.cons (congrArg Value.bool ((not_f.mpr (ieq_t.mpr (by omega))))) (.cons (congrArg (Value.int .i64) ((w_i64 _).trans (by omega))) (.cons (congrArg (Value.int .i64) ((w_i64 _).trans (by omega))) (.cons (congrArg Value.bool ((ilt_f.mpr (by omega)))) (.cons (congrArg (Value.int .u8) ((Int.tmod_eq_emod_of_nonneg (by omega)).trans (by omega))) (.cons (congrArg (Value.int .u64) ((w_u64 _).trans (by omega))) (.cons (congrArg (Value.int .u64) ((w_u64 _).trans (by omega))) .nil)))))))))))))

noncomputable def pins13 (aux : Int) : List (Nat × Value) := [(0, .int .u64 aux), (0, .int .u64 (aux + 1)), (100, .int .u8 2), (11, .bool false), (0, .int .i64 (aux + 1)), (160, .int .i64 (aux + 1)), (202, .bool false), (1, .int .u8 2), (1, .bool true), (2, .int .u8 2), (4, .bool false), (0, .bool true)]
noncomputable def pairs13 (user target flags aux by_ : Int) : List (Value × Value) := [(.bool (ieq 77 target), .bool true), (.bool (ieq user target), .bool false), (.int .u8 (Int.tmod flags 3), .int .u8 2), (.bool (ieq by_ user), .bool true), (.int .u8 (Int.tmod flags 3), .int .u8 2), (.bool (!(ieq user by_)), .bool false), (.int .i64 (wrapK .i64 (0 + (aux + 1))), .int .i64 (aux + 1)), (.int .i64 (wrapK .i64 (aux + 1)), .int .i64 (aux + 1)), (.bool (ilt 1073741824 (aux + 1)), .bool false), (.int .u8 (Int.tmod flags 3), .int .u8 2), (.int .u64 (wrapK .u64 (1 + aux)), .int .u64 (aux + 1)), (.int .u64 (wrapK .u64 aux), .int .u64 aux)]
set_option maxRecDepth 100000 in
theorem run13 (user target flags aux by_ : Int) : fin (rn user target flags aux by_ 377 (pins13 aux)) = wantP (rn user target flags aux by_ 377 (pins13 aux)) (pairs13 user target flags aux by_) (trues (rn user target flags aux by_ 377 (pins13 aux))) := by kernel_rfl
set_option maxRecDepth 100000 in
theorem path13 : ∀ (user target flags aux by_ : Int), InRange user target flags aux by_ → (flags % 3) = 2 → (!(ieq user by_)) = false → (ieq user target) = false → (ieq 77 target) = true → Goal user target flags aux by_ := by
  intro user target flags aux by_ rg f0 f1 f2 f3
  obtain ⟨r0, s0, r1, s1, r2, s2, r3, s3, r4, s4⟩ := rg
  have f1 := ieq_t.mp (not_f.mp f1)
  have f2 := ieq_f.mp f2
  have f3 := ieq_t.mp f3
  exact goal (run13 user target flags aux by_) (.cons (congrArg Value.bool ((ieq_t.mpr (by omega)))) (.cons (congrArg Value.bool ((ieq_f.mpr (by omega)))) (.cons (congrArg (Value.int .u8) ((Int.tmod_eq_emod_of_nonneg (by omega)).trans (by omega))) (.cons (congrArg Value.bool ((ieq_t.mpr (by omega)))) (.cons (congrArg (Value.int .u8) ((Int.tmod_eq_emod_of_nonneg (by omega)).trans (by omega))) (.cons (congrArg Value.bool ((not_f.mpr (ieq_t.mpr (by omega))))) (.cons (congrArg (Value.int .i64) ((w_i64 _).trans (by omega))) (.cons (congrArg (Value.int .i64) ((w_i64 _).trans (by omega))) (.cons (congrArg Value.bool ((ilt_f.mpr (by omega)))) (.cons (congrArg (Value.int .u8) ((Int.tmod_eq_emod_of_nonneg (by omega)).trans (by omega))) (.cons (congrArg (Value.int .u64) ((w_u64 _).trans (by omega))) (.cons (congrArg (Value.int .u64) ((w_u64 _).trans (by omega))) .nil))))))))))))

noncomputable def pins14 (aux : Int) : List (Nat × Value) := [(0, .int .u64 aux), (0, .int .u64 (aux + 1)), (100, .int .u8 2), (11, .bool false), (0, .int .i64 (aux + 1)), (160, .int .i64 (aux + 1)), (202, .bool false), (1, .int .u8 2), (1, .bool true), (2, .int .u8 2), (4, .bool false), (4, .bool false), (0, .bool true)]
noncomputable def pairs14 (user target flags aux by_ : Int) : List (Value × Value) := [(.bool (ieq target target), .bool true), (.bool (ieq 77 target), .bool false), (.bool (ieq user target), .bool false), (.int .u8 (Int.tmod flags 3), .int .u8 2), (.bool (ieq by_ user), .bool true), (.int .u8 (Int.tmod flags 3), .int .u8 2), (.bool (!(ieq user by_)), .bool false), (.int .i64 (wrapK .i64 (0 + (aux + 1))), .int .i64 (aux + 1)), (.int .i64 (wrapK .i64 (aux + 1)), .int .i64 (aux + 1)), (.bool (ilt 1073741824 (aux + 1)), .bool false), (.int .u8 (Int.tmod flags 3), .int .u8 2), (.int .u64 (wrapK .u64 (1 + aux)), .int .u64 (aux + 1)), (.int .u64 (wrapK .u64 aux), .int .u64 aux)]
set_option maxRecDepth 100000 in
theorem run14 (user target flags aux by_ : Int) : fin (rn user target flags aux by_ 377 (pins14 aux)) = wantP (rn user target flags aux by_ 377 (pins14 aux)) (pairs14 user target flags aux by_) (trues (rn user target flags aux by_ 377 (pins14 aux))) := by kernel_rfl
set_option maxRecDepth 100000 in
theorem path14 : ∀ (user target flags aux by_ : Int), InRange user target flags aux by_ → (flags % 3) = 2 → (!(ieq user by_)) = false → (ieq user target) = false → (ieq 77 target) = false → Goal user target flags aux by_ := by
  intro user target flags aux by_ rg f0 f1 f2 f3
  obtain ⟨r0, s0, r1, s1, r2, s2, r3, s3, r4, s4⟩ := rg
  have f1 := ieq_t.mp (not_f.mp f1)
  have f2 := ieq_f.mp f2
  have f3 := ieq_f.mp f3
  exact goal (run14 user target flags aux by_) (.cons (congrArg Value.bool ((ieq_t.mpr (by omega)))) (.cons (congrArg Value.bool ((ieq_f.mpr (by omega)))) (.cons (congrArg Value.bool ((ieq_f.mpr (by omega)))) (.cons (congrArg (Value.int .u8) ((Int.tmod_eq_emod_of_nonneg (by omega)).trans (by omega))) (.cons (congrArg Value.bool ((ieq_t.mpr (by omega)))) (.cons (congrArg (Value.int .u8) ((Int.tmod_eq_emod_of_nonneg (by omega)).trans (by omega))) (.cons (congrArg Value.bool ((not_f.mpr (ieq_t.mpr (by omega))))) (.cons (congrArg (Value.int .i64) ((w_i64 _).trans (by omega))) (.cons (congrArg (Value.int .i64) ((w_i64 _).trans (by omega))) (.cons (congrArg Value.bool ((ilt_f.mpr (by omega)))) (.cons (congrArg (Value.int .u8) ((Int.tmod_eq_emod_of_nonneg (by omega)).trans (by omega))) (.cons (congrArg (Value.int .u64) ((w_u64 _).trans (by omega))) (.cons (congrArg (Value.int .u64) ((w_u64 _).trans (by omega))) .nil)))))))))))))

end Go.Proofs.YtjkibboeagjgnaaGreat.ringCancels
