/- Paths of the law RingCancels, each under its conditions. -/
import Derived.Test.YtjkibboeagjgnaaGreatEvRingCancels0
namespace Go.Proofs.YtjkibboeagjgnaaGreat.ringCancels
open Go.Ev

noncomputable def pins0 (aux : Int) : List (Nat × Value) := [(0, .int .u64 aux), (0, .int .u64 (aux + 1)), (103, .int .u8 0), (11, .bool false), (0, .int .i64 (aux + 1)), (215, .int .i64 (aux + 1)), (90, .bool true), (1, .int .u8 0), (1, .bool false), (0, .bool true)]
noncomputable def pairs0 (user flags aux by_ : Int) : List (Value × Value) := [(.bool (ieq by_ 77), .bool true), (.bool (ieq by_ user), .bool false), (.int .u8 (Int.tmod flags 3), .int .u8 0), (.bool (!(ieq user by_)), .bool true), (.int .i64 (wrapK .i64 (0 + (aux + 1))), .int .i64 (aux + 1)), (.int .i64 (wrapK .i64 (aux + 1)), .int .i64 (aux + 1)), (.bool (ilt 1073741824 (aux + 1)), .bool false), (.int .u8 (Int.tmod flags 3), .int .u8 0), (.int .u64 (wrapK .u64 (1 + aux)), .int .u64 (aux + 1)), (.int .u64 (wrapK .u64 aux), .int .u64 aux)]
set_option maxRecDepth 100000 in
theorem run0 (user target flags aux by_ : Int) : fin (rn user target flags aux by_ 377 (pins0 aux)) = wantP (rn user target flags aux by_ 377 (pins0 aux)) (pairs0 user flags aux by_) (trues (rn user target flags aux by_ 377 (pins0 aux))) := by kernel_rfl
set_option maxRecDepth 100000 in
theorem path0 : ∀ (user target flags aux by_ : Int), InRange user target flags aux by_ → (flags % 3) = 0 → (!(ieq user by_)) = true → (ieq by_ 77) = true → Goal user target flags aux by_ := by
  intro user target flags aux by_ rg f0 f1 f2
  obtain ⟨r0, s0, r1, s1, r2, s2, r3, s3, r4, s4⟩ := rg
  have f1 := ieq_f.mp (not_t.mp f1)
  have f2 := ieq_t.mp f2
  exact goal (run0 user target flags aux by_) (.cons (congrArg Value.bool ((ieq_t.mpr (by omega)))) (.cons (congrArg Value.bool ((ieq_f.mpr (by omega)))) (.cons (congrArg (Value.int .u8) ((Int.tmod_eq_emod_of_nonneg (by omega)).trans (by omega))) (.cons (congrArg Value.bool ((not_t.mpr (ieq_f.mpr (by omega))))) (.cons (congrArg (Value.int .i64) ((w_i64 _).trans (by omega))) (.cons (congrArg (Value.int .i64) ((w_i64 _).trans (by omega))) (.cons (congrArg Value.bool ((ilt_f.mpr (by omega)))) (.cons (congrArg (Value.int .u8) ((Int.tmod_eq_emod_of_nonneg (by omega)).trans (by omega))) (.cons (congrArg (Value.int .u64) ((w_u64 _).trans (by omega))) (.cons (congrArg (Value.int .u64) ((w_u64 _).trans (by omega))) .nil))))))))))

noncomputable def pins1 (aux : Int) : List (Nat × Value) := [(0, .int .u64 aux), (0, .int .u64 (aux + 1)), (103, .int .u8 0), (11, .bool false), (0, .int .i64 (aux + 1)), (215, .int .i64 (aux + 1)), (90, .bool true), (1, .int .u8 0), (1, .bool false), (0, .bool false)]
noncomputable def pairs1 (user flags aux by_ : Int) : List (Value × Value) := [(.bool (ieq by_ 77), .bool false), (.bool (ieq by_ user), .bool false), (.int .u8 (Int.tmod flags 3), .int .u8 0), (.bool (!(ieq user by_)), .bool true), (.int .i64 (wrapK .i64 (0 + (aux + 1))), .int .i64 (aux + 1)), (.int .i64 (wrapK .i64 (aux + 1)), .int .i64 (aux + 1)), (.bool (ilt 1073741824 (aux + 1)), .bool false), (.int .u8 (Int.tmod flags 3), .int .u8 0), (.int .u64 (wrapK .u64 (1 + aux)), .int .u64 (aux + 1)), (.int .u64 (wrapK .u64 aux), .int .u64 aux)]
set_option maxRecDepth 100000 in
theorem run1 (user target flags aux by_ : Int) : fin (rn user target flags aux by_ 377 (pins1 aux)) = wantP (rn user target flags aux by_ 377 (pins1 aux)) (pairs1 user flags aux by_) (trues (rn user target flags aux by_ 377 (pins1 aux))) := by kernel_rfl
set_option maxRecDepth 100000 in
theorem path1 : ∀ (user target flags aux by_ : Int), InRange user target flags aux by_ → (flags % 3) = 0 → (!(ieq user by_)) = true → (ieq by_ 77) = false → Goal user target flags aux by_ := by
  intro user target flags aux by_ rg f0 f1 f2
  obtain ⟨r0, s0, r1, s1, r2, s2, r3, s3, r4, s4⟩ := rg
  have f1 := ieq_f.mp (not_t.mp f1)
  have f2 := ieq_f.mp f2
  exact goal (run1 user target flags aux by_) (.cons (congrArg Value.bool ((ieq_f.mpr (by omega)))) (.cons (congrArg Value.bool ((ieq_f.mpr (by omega)))) (.cons (congrArg (Value.int .u8) ((Int.tmod_eq_emod_of_nonneg (by omega)).trans (by omega))) (.cons (congrArg Value.bool ((not_t.mpr (ieq_f.mpr (by omega))))) (.cons (congrArg (Value.int .i64) ((w_i64 _).trans (by omega))) (.cons (congrArg (Value.int .i64) ((w_i64 _).trans (by omega))) (.cons (congrArg Value.bool ((ilt_f.mpr (by omega)))) (.cons (congrArg (Value.int .u8) ((Int.tmod_eq_emod_of_nonneg (by omega)).trans (by omega))) (.cons (congrArg (Value.int .u64) ((w_u64 _).trans (by omega))) (.cons (congrArg (Value.int .u64) ((w_u64 _).trans (by omega))) .nil))))))))))

noncomputable def pins2 (aux : Int) : List (Nat × Value) := [(0, .int .u64 aux), (0, .int .u64 (aux + 1)), (103, .int .u8 0), (11, .bool false), (0, .int .i64 (aux + 1)), (215, .int .i64 (aux + 1)), (116, .bool false), (1, .int .u8 0), (3, .bool true), (0, .bool true)]
noncomputable def pairs2 (user flags aux by_ : Int) : List (Value × Value) := [(.bool (ieq user user), .bool true), (.bool (ieq by_ user), .bool true), (.int .u8 (Int.tmod flags 3), .int .u8 0), (.bool (!(ieq user by_)), .bool false), (.int .i64 (wrapK .i64 (0 + (aux + 1))), .int .i64 (aux + 1)), (.int .i64 (wrapK .i64 (aux + 1)), .int .i64 (aux + 1)), (.bool (ilt 1073741824 (aux + 1)), .bool false), (.int .u8 (Int.tmod flags 3), .int .u8 0), (.int .u64 (wrapK .u64 (1 + aux)), .int .u64 (aux + 1)), (.int .u64 (wrapK .u64 aux), .int .u64 aux)]
set_option maxRecDepth 100000 in
theorem run2 (user target flags aux by_ : Int) : fin (rn user target flags aux by_ 377 (pins2 aux)) = wantP (rn user target flags aux by_ 377 (pins2 aux)) (pairs2 user flags aux by_) (trues (rn user target flags aux by_ 377 (pins2 aux))) := by kernel_rfl
set_option maxRecDepth 100000 in
theorem path2 : ∀ (user target flags aux by_ : Int), InRange user target flags aux by_ → (flags % 3) = 0 → (!(ieq user by_)) = false → Goal user target flags aux by_ := by
  intro user target flags aux by_ rg f0 f1
  obtain ⟨r0, s0, r1, s1, r2, s2, r3, s3, r4, s4⟩ := rg
  have f1 := ieq_t.mp (not_f.mp f1)
  exact goal (run2 user target flags aux by_) (.cons (congrArg Value.bool ((ieq_t.mpr (by omega)))) (.cons (congrArg Value.bool ((ieq_t.mpr (by omega)))) (.cons (congrArg (Value.int .u8) ((Int.tmod_eq_emod_of_nonneg (by omega)).trans (by omega))) (.cons (congrArg Value.bool ((not_f.mpr (ieq_t.mpr (by omega))))) (.cons (congrArg (Value.int .i64) ((w_i64 _).trans (by omega))) (.cons (congrArg (Value.int .i64) ((w_i64 _).trans (by omega))) (.cons (congrArg Value.bool ((ilt_f.mpr (by omega)))) (.cons (congrArg (Value.int .u8) ((Int.tmod_eq_emod_of_nonneg (by omega)).trans (by omega))) (.cons (congrArg (Value.int .u64) ((w_u64 _).trans (by omega))) (.cons (congrArg (Value.int .u64) ((w_u64 _).trans (by omega))) .nil))))))))))

noncomputable def pins3 (aux : Int) : List (Nat × Value) := [(0, .int .u64 aux), (0, .int .u64 (aux + 1)), (100, .int .u8 1), (11, .bool false), (0, .int .i64 (aux + 1)), (160, .int .i64 (aux + 1)), (8, .bool true), (107, .bool true), (1, .int .u8 1), (1, .bool false), (0, .bool false), (0, .bool true)]
noncomputable def pairs3 (user target flags aux by_ : Int) : List (Value × Value) := [(.bool (ieq by_ 77), .bool true), (.bool (ieq by_ target), .bool false), (.bool (ieq by_ user), .bool false), (.int .u8 (Int.tmod flags 3), .int .u8 1), (.bool (!(ieq target by_)), .bool true), (.bool (!(ieq user by_)), .bool true), (.int .i64 (wrapK .i64 (0 + (aux + 1))), .int .i64 (aux + 1)), (.int .i64 (wrapK .i64 (aux + 1)), .int .i64 (aux + 1)), (.bool (ilt 1073741824 (aux + 1)), .bool false), (.int .u8 (Int.tmod flags 3), .int .u8 1), (.int .u64 (wrapK .u64 (1 + aux)), .int .u64 (aux + 1)), (.int .u64 (wrapK .u64 aux), .int .u64 aux)]
set_option maxRecDepth 100000 in
theorem run3 (user target flags aux by_ : Int) : fin (rn user target flags aux by_ 377 (pins3 aux)) = wantP (rn user target flags aux by_ 377 (pins3 aux)) (pairs3 user target flags aux by_) (trues (rn user target flags aux by_ 377 (pins3 aux))) := by kernel_rfl
set_option maxRecDepth 100000 in
theorem path3 : ∀ (user target flags aux by_ : Int), InRange user target flags aux by_ → (flags % 3) = 1 → (!(ieq user by_)) = true → (!(ieq target by_)) = true → (ieq by_ 77) = true → Goal user target flags aux by_ := by
  intro user target flags aux by_ rg f0 f1 f2 f3
  obtain ⟨r0, s0, r1, s1, r2, s2, r3, s3, r4, s4⟩ := rg
  have f1 := ieq_f.mp (not_t.mp f1)
  have f2 := ieq_f.mp (not_t.mp f2)
  have f3 := ieq_t.mp f3
  exact goal (run3 user target flags aux by_) (.cons (congrArg Value.bool ((ieq_t.mpr (by omega)))) (.cons (congrArg Value.bool ((ieq_f.mpr (by omega)))) (.cons (congrArg Value.bool ((ieq_f.mpr (by omega)))) (.cons (congrArg (Value.int .u8) ((Int.tmod_eq_emod_of_nonneg (by omega)).trans (by omega))) (.cons (congrArg Value.bool ((not_t.mpr (ieq_f.mpr (by omega))))) (.cons (congrArg Value.bool ((not_t.mpr (ieq_f.mpr (by omega))))) (.cons (congrArg (Value.int .i64) ((w_i64 _).trans (by omega))) (.cons (congrArg (Value.int .i64) ((w_i64 _).trans (by omega))) (.cons (congrArg Value.bool ((ilt_f.mpr (by omega)))) (.cons (congrArg (Value.int .u8) ((Int.tmod_eq_emod_of_nonneg (by omega)).trans (by omega))) (.cons (congrArg (Value.int .u64) ((w_u64 _).trans (by omega))) (.cons (congrArg (Value.int .u64) ((w_u64 _).trans (by omega))) .nil))))))))))))

end Go.Proofs.YtjkibboeagjgnaaGreat.ringCancels
