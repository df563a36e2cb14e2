/- Paths of the law RingCancels, each under its conditions. -/
import Derived.Test.YtjkibboeagjgnaaGreatEvRingCancels0
namespace Go.Proofs.YtjkibboeagjgnaaGreat.ringCancels
open Go.Ev

noncomputable def pins8 (aux : Int) : List (Nat × Value) := [(0, .int .u64 aux), (0, .int .u64 (aux + 1)), (100, .int .u8 2), (11, .bool false), (0, .int .i64 (aux + 1)), (160, .int .i64 (aux + 1)), (8, .bool true), (107, .bool true), (1, .int .u8 2), (1, .bool false), (0, .bool false), (0, .bool true)]
noncomputable def pairs8 (user target flags aux by_ : Int) : List (Value × Value) := [(.bool (ieq by_ 77), .bool true), (.bool (ieq by_ target), .bool false), (.bool (ieq by_ user), .bool false), (.int .u8 (Int.tmod flags 3), .int .u8 2), (.bool (!(ieq target by_)), .bool true), (.bool (!(ieq user by_)), .bool true), (.int .i64 (wrapK .i64 (0 + (aux + 1))), .int .i64 (aux + 1)), (.int .i64 (wrapK .i64 (aux + 1)), .int .i64 (aux + 1)), (.bool (ilt 1073741824 (aux + 1)), .bool false), (.int .u8 (Int.tmod flags 3), .int .u8 2), (.int .u64 (wrapK .u64 (1 + aux)), .int .u64 (aux + 1)), (.int .u64 (wrapK .u64 aux), .int .u64 aux)]
set_option maxRecDepth 100000 in
theorem run8 (user target flags aux by_ : Int) : fin (rn user target flags aux by_ 377 (pins8 aux)) = wantP (rn user target flags aux by_ 377 (pins8 aux)) (pairs8 user target flags aux by_) (trues (rn user target flags aux by_ 377 (pins8 aux))) := by kernel_rfl
set_option maxRecDepth 100000 in
theorem path8 : ∀ (user target flags aux by_ : Int), InRange user target flags aux by_ → (flags % 3) = 2 → (!(ieq user by_)) = true → (!(ieq target by_)) = true → (ieq by_ 77) = true → Goal user target flags aux by_ := by
  intro user target flags aux by_ rg f0 f1 f2 f3
  obtain ⟨r0, s0, r1, s1, r2, s2, r3, s3, r4, s4⟩ := rg
  have f1 := ieq_f.mp (not_t.mp f1)
  have f2 := ieq_f.mp (not_t.mp f2)
  have f3 := ieq_t.mp f3
  exact goal (run8 user target flags aux by_) (.cons (congrArg Value.bool ((ieq_t.mpr (by omega)))) (.cons (congrArg Value.bool ((ieq_f.mpr (by omega)))) (.cons (congrArg Value.bool ((ieq_f.mpr (by omega)))) (.cons (congrArg (Value.int .u8) ((Int.tmod_eq_emod_of_nonneg (by omega)).trans (by omega))) (.cons (congrArg Value.bool ((not_t.mpr (ieq_f.mpr (by omega))))) (.cons (congrArg Value.bool ((not_t.mpr (ieq_f.mpr (by omega))))) (.cons (congrArg (Value.int .i64) ((w_i64 _).trans (by omega))) (.cons (congrArg (Value.int .i64) ((w_i64 _).trans (by omega))) (.cons (congrArg Value.bool ((ilt_f.mpr (by omega)))) (.cons (congrArg (Value.int .u8) ((Int.tmod_eq_emod_of_nonneg (by omega)).trans (by omega))) (.cons (congrArg (Value.int .u64) ((w_u64 _).trans (by omega))) (.cons (congrArg (Value.int .u64) ((w_u64 _).trans (by omega))) .nil))))))))))))

noncomputable def pins9 (aux : Int) : List (Nat × Value) := [(0, .int .u64 aux), (0, .int .u64 (aux + 1)), (100, .int .u8 2), (11, .bool false), (0, .int .i64 (aux + 1)), (160, .int .i64 (aux + 1)), (8, .bool true), (107, .bool true), (1, .int .u8 2), (1, .bool false), (0, .bool false), (0, .bool false)]
noncomputable def pairs9 (user target flags aux by_ : Int) : List (Value × Value) := [(.bool (ieq by_ 77), .bool false), (.bool (ieq by_ target), .bool false), (.bool (ieq by_ user), .bool false), (.int .u8 (Int.tmod flags 3), .int .u8 2), (.bool (!(ieq target by_)), .bool true), (.bool (!(ieq user by_)), .bool true), (.int .i64 (wrapK .i64 (0 + (aux + 1))), .int .i64 (aux + 1)), (.int .i64 (wrapK .i64 (aux + 1)), .int .i64 (aux + 1)), (.bool (ilt 1073741824 (aux + 1)), .bool false), (.int .u8 (Int.tmod flags 3), .int .u8 2), (.int .u64 (wrapK .u64 (1 + aux)), .int .u64 (aux + 1)), (.int .u64 (wrapK .u64 aux), .int .u64 aux)]
set_option maxRecDepth 100000 in
theorem run9 (user target flags aux by_ : Int) : fin (rn user target flags aux by_ 377 (pins9 aux)) = wantP (rn user target flags aux by_ 377 (pins9 aux)) (pairs9 user target flags aux by_) (trues (rn user target flags aux by_ 377 (pins9 aux))) := by kernel_rfl
set_option maxRecDepth 100000 in
theorem path9 : ∀ (user target flags aux by_ : Int), InRange user target flags aux by_ → (flags % 3) = 2 → (!(ieq user by_)) = true → (!(ieq target by_)) = true → (ieq by_ 77) = false → Goal user target flags aux by_ := by
  intro user target flags aux by_ rg f0 f1 f2 f3
  obtain ⟨r0, s0, r1, s1, r2, s2, r3, s3, r4, s4⟩ := rg
  have f1 := ieq_f.mp (not_t.mp f1)
  have f2 := ieq_f.mp (not_t.mp f2)
  have f3 := ieq_f.mp f3
  exact goal (run9 user target flags aux by_) (.cons (congrArg Value.bool ((ieq_f.mpr (by omega)))) (.cons (congrArg Value.bool ((ieq_f.mpr (by omega)))) (.cons (congrArg Value.bool ((ieq_f.mpr (by omega)))) (.cons (congrArg (Value.int .u8) ((Int.tmod_eq_emod_of_nonneg (by omega)).trans (by omega))) (.cons (congrArg Value.bool ((not_t.mpr (ieq_f.mpr (by omega))))) (.cons (congrArg Value.bool ((not_t.mpr (ieq_f.mpr (by omega))))) (.cons (congrArg (Value.int .i64) ((w_i64 _).trans (by omega))) (.cons (congrArg (Value.int .i64) ((w_i64 _).trans (by omega))) (.cons (congrArg Value.bool ((ilt_f.mpr (by omega)))) (.cons (congrArg (Value.int .u8) ((Int.tmod_eq_emod_of_nonneg (by omega)).trans (by omega))) (.cons (congrArg (Value.int .u64) ((w_u64 _).trans (by omega))) (.cons (congrArg (Value.int .u64) ((w_u64 _).trans (by omega))) .nil))))))))))))

noncomputable def pins10 (aux : Int) : List (Nat × Value) := [(0, .int .u64 aux), (0, .int .u64 (aux + 1)), (100, .int .u8 2), (11, .bool false), (0, .int .i64 (aux + 1)), (160, .int .i64 (aux + 1)), (8, .bool true), (99, .bool false), (1, .int .u8 2), (1, .bool false), (0, .bool true)]
noncomputable def pairs10 (user target flags aux by_ : Int) : List (Value × Value) := [(.bool (ieq by_ target), .bool true), (.bool (ieq by_ user), .bool false), (.int .u8 (Int.tmod flags 3), .int .u8 2), (.bool (!(ieq target by_)), .bool false), (.bool (!(ieq user by_)), .bool true), (.int .i64 (wrapK .i64 (0 + (aux + 1))), .int .i64 (aux + 1)), (.int .i64 (wrapK .i64 (aux + 1)), .int .i64 (aux + 1)), (.bool (ilt 1073741824 (aux + 1)), .bool false), (.int .u8 (Int.tmod flags 3), .int .u8 2), (.int .u64 (wrapK .u64 (1 + aux)), .int .u64 (aux + 1)), (.int .u64 (wrapK .u64 aux), .int .u64 aux)]
set_option maxRecDepth 100000 in
theorem run10 (user target flags aux by_ : Int) : fin (rn user target flags aux by_ 377 (pins10 aux)) = wantP (rn user target flags aux by_ 377 (pins10 aux)) (pairs10 user target flags aux by_) (trues (rn user target flags aux by_ 377 (pins10 aux))) := by kernel_rfl
set_option maxRecDepth 100000 in
theorem path10 : ∀ (user target flags aux by_ : Int), InRange user target flags aux by_ → (flags % 3) = 2 → (!(ieq user by_)) = true → (!(ieq target by_)) = false → Goal user target flags aux by_ := by
  intro user target flags aux by_ rg f0 f1 f2
  obtain ⟨r0, s0, r1, s1, r2, s2, r3, s3, r4, s4⟩ := rg
  have f1 := ieq_f.mp (not_t.mp f1)
  have f2 := ieq_t.mp (not_f.mp f2)
  exact goal (run10 user target flags aux by_) (.cons (congrArg Value.bool ((ieq_t.mpr (by omega)))) (.cons (congrArg Value.bool ((ieq_f.mpr (by omega)))) (.cons (congrArg (Value.int .u8) ((Int.tmod_eq_emod_of_nonneg (by omega)).trans (by omega))) (.cons (congrArg Value.bool ((not_f.mpr (ieq_t.mpr (by omega))))) (.cons (congrArg Value.bool ((not_t.mpr (ieq_f.mpr (by omega))))) (.cons (congrArg (Value.int .i64) ((w_i64 _).trans (by omega))) (.cons (congrArg (Value.int .i64) ((w_i64 _).trans (by omega))) (.cons (congrArg Value.bool ((ilt_f.mpr (by omega)))) (.cons (congrArg (Value.int .u8) ((Int.tmod_eq_emod_of_nonneg (by omega)).trans (by omega))) (.cons (congrArg (Value.int .u64) ((w_u64 _).trans (by omega))) (.cons (congrArg (Value.int .u64) ((w_u64 _).trans (by omega))) .nil)))))))))))

noncomputable def pins11 (aux : Int) : List (Nat × Value) := [(0, .int .u64 aux), (0, .int .u64 (aux + 1)), (100, .int .u8 2), (11, .bool false), (0, .int .i64 (aux + 1)), (160, .int .i64 (aux + 1)), (202, .bool false), (1, .int .u8 2), (1, .bool true), (2, .int .u8 2), (5, .bool true), (0, .bool true)]
noncomputable def pairs11 (user target flags aux by_ : Int) : List (Value × Value) := [(.bool (ieq 77 target), .bool true), (.bool (ieq user target), .bool true), (.int .u8 (Int.tmod flags 3), .int .u8 2), (.bool (ieq by_ user), .bool true), (.int .u8 (Int.tmod flags 3), .int .u8 2), (.bool (!(ieq user by_)), .bool false), (.int .i64 (wrapK .i64 (0 + (aux + 1))), .int .i64 (aux + 1)), (.int .i64 (wrapK .i64 (aux + 1)), .int .i64 (aux + 1)), (.bool (ilt 1073741824 (aux + 1)), .bool false), (.int .u8 (Int.tmod flags 3), .int .u8 2), (.int .u64 (wrapK .u64 (1 + aux)), .int .u64 (aux + 1)), (.int .u64 (wrapK .u64 aux), .int .u64 aux)]
set_option maxRecDepth 100000 in
theorem run11 (user target flags aux by_ : Int) : fin (rn user target flags aux by_ 377 (pins11 aux)) = wantP (rn user target flags aux by_ 377 (pins11 aux)) (pairs11 user target flags aux by_) (trues (rn user target flags aux by_ 377 (pins11 aux))) := by kernel_rfl
set_option maxRecDepth 100000 in
theorem path11 : ∀ (user target flags aux by_ : Int), InRange user target flags aux by_ → (flags % 3) = 2 → (!(ieq user by_)) = false → (ieq user target) = true → (ieq 77 target) = true → Goal user target flags aux by_ := by
  intro user target flags aux by_ rg f0 f1 f2 f3
  obtain ⟨r0, s0, r1, s1, r2, s2, r3, s3, r4, s4⟩ := rg
  have f1 := ieq_t.mp (not_f.mp f1)
  have f2 := ieq_t.mp f2
  have f3 := ieq_t.mp f3
  exact goal (run11 user target flags aux by_) (.cons (congrArg Value.bool ((ieq_t.mpr (by omega)))) (.cons (congrArg Value.bool ((ieq_t.mpr (by omega)))) (.cons (congrArg (Value.int .u8) ((Int.tmod_eq_emod_of_nonneg (by omega)).trans (by omega))) (.cons (congrArg Value.bool ((ieq_t.mpr (by omega)))) (.cons (congrArg (Value.int .u8) ((Int.tmod_eq_emod_of_nonneg (by omega)).trans (by omega))) (.cons (congrArg Value.bool ((not_f.mpr (ieq_t.mpr (by omega))))) (.cons (congrArg (Value.int .i64) ((w_i64 _).trans (by omega))) (.cons (congrArg (Value.int .i64) ((w_i64 _).trans (by omega))) (.cons (congrArg Value.bool ((ilt_f.mpr (by omega)))) (.cons (congrArg (Value.int .u8) ((Int.tmod_eq_emod_of_nonneg (by omega)).trans (by omega))) (.cons (congrArg (Value.int .u64) ((w_u64 _).trans (by omega))) (.cons (congrArg (Value.int .u64) ((w_u64 _).trans (by omega))) .nil))))))))))))

end Go.Proofs.YtjkibboeagjgnaaGreat.ringCancels
