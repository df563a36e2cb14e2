/- The function LgScale: what is to be shown of a run. No conditions. -/
import Derived.Test.YtpncmonojhlheaaGreatEvLgSeat
namespace Go.Proofs.YtpncmonojhlheaaGreat.LgScale
open Go.Ev

noncomputable def args : Int → Int → Int → List Value := fun _ _ _ => [ptr 0 0]
def Goal (x y r : Int) : Prop := ∃ hx, (cfun (envOf Tryz.prog 185 noCon) (cinv (envOf Tryz.prog 185 noCon) 1000) 1000 74).run (args x y r) (oneBlock [.int .i64 x, .int .i64 y, .int .i64 r]) = some (.int .i64 (Int.ofNat (sclN r)), hx)
noncomputable def rn (x y r : Int) (c : Nat) (pins : List (Nat × Value)) : Option (Value × AH × Ob) := irunP Tryz.prog 185 noCon 1000 74 (args x y r) (oneBlock [.int .i64 x, .int .i64 y, .int .i64 r]) c pins
def InRange : Int → Int → Int → Prop := fun _ _ r => r ≤ 1048576
theorem goal {x y r : Int} {pc : Nat} {pps : List (Nat × Value)} {pl : List (Value × Value)} {qs : List Prop} {pv : Value} (pe : finV (rn x y r pc pps) = wantV (rn x y r pc pps) pv pl qs) (phl : Same pl) (php : AllP qs) (hpv : pv = .int .i64 (Int.ofNat (sclN r))) : Goal x y r := by
  subst hpv
  exact fin_runV pe phl (allP php)

end Go.Proofs.YtpncmonojhlheaaGreat.LgScale
namespace Go.Proofs.YtpncmonojhlheaaGreat.LgScale
open Go.Ev

noncomputable def pins0 (r : Int) : List (Nat × Value) := [(0, .int .i64 r), (1, .bool true), (0, .int .i64 (r / 2)), (1, .bool true), (0, .int .i64 (r / 4)), (1, .bool true), (0, .int .i64 (r / 8)), (1, .bool true), (0, .int .i64 (r / 16)), (1, .bool true), (0, .int .i64 (r / 32)), (0, .bool false)]
noncomputable def pairs0 (r : Int) : List (Value × Value) := [(.bool (ilt 65535 (r / 32)), .bool false), (.int .i64 (Int.fdiv r 32), .int .i64 (r / 32)), (.bool (ilt 65535 (r / 16)), .bool true), (.int .i64 (Int.fdiv r 16), .int .i64 (r / 16)), (.bool (ilt 65535 (r / 8)), .bool true), (.int .i64 (Int.fdiv r 8), .int .i64 (r / 8)), (.bool (ilt 65535 (r / 4)), .bool true), (.int .i64 (Int.fdiv r 4), .int .i64 (r / 4)), (.bool (ilt 65535 (r / 2)), .bool true), (.int .i64 (Int.fdiv r 2), .int .i64 (r / 2)), (.bool (ilt 65535 r), .bool true), (.int .i64 (Int.fdiv r 1), .int .i64 r)]
set_option maxRecDepth 100000 in
theorem run0 (x y r : Int) : finV (rn x y r 0 (pins0 r)) = wantV (rn x y r 0 (pins0 r)) (.int .i64 5) (pairs0 r) [] := by kernel_rfl
set_option maxRecDepth 100000 in
theorem path0 : ∀ (x y r : Int), InRange x y r → (ilt 65535 r) = true → (ilt 65535 (r / 2)) = true → (ilt 65535 (r / 4)) = true → (ilt 65535 (r / 8)) = true → (ilt 65535 (r / 16)) = true → Goal x y r := by
  intro x y r rg f0 f1 f2 f3 f4
  have r0 : r ≤ 1048576 := rg
  have f0 := ilt_t.mp f0
  have f1 := ilt_t.mp f1
  have f2 := ilt_t.mp f2
  have f3 := ilt_t.mp f3
  have f4 := ilt_t.mp f4
  exact goal (run0 x y r) (.cons (congrArg Value.bool ((ilt_f.mpr (by omega)))) (.cons (congrArg (Value.int .i64) ((fdiv_pos _ _ (by decide)).trans (by omega))) (.cons (congrArg Value.bool ((ilt_t.mpr (by omega)))) (.cons (congrArg (Value.int .i64) ((fdiv_pos _ _ (by decide)).trans (by omega))) (.cons (congrArg Value.bool ((ilt_t.mpr (by omega)))) (.cons (congrArg (Value.int .i64) ((fdiv_pos _ _ (by decide)).trans (by omega))) (.cons (congrArg Value.bool ((ilt_t.mpr (by omega)))) (.cons (congrArg (Value.int .i64) ((fdiv_pos _ _ (by decide)).trans (by omega))) (.cons (congrArg Value.bool ((ilt_t.mpr (by omega)))) (.cons (congrArg (Value.int .i64) ((fdiv_pos _ _ (by decide)).trans (by omega))) (.cons (congrArg Value.bool ((ilt_t.mpr (by omega)))) (.cons (congrArg (Value.int .i64) ((fdiv_pos _ _ (by decide)).trans (by omega))) .nil)))))))))))) (.nil) ((congrArg (Value.int .i64) (by rcases scl_cases (r := r) (by omega) with ⟨h, a⟩ | ⟨h, a⟩ | ⟨h, a⟩ | ⟨h, a⟩ | ⟨h, a⟩ | ⟨h, a⟩ <;> first | (rw [h]; rfl) | (exfalso; omega))))

noncomputable def pins1 (r : Int) : List (Nat × Value) := [(0, .int .i64 r), (1, .bool true), (0, .int .i64 (r / 2)), (1, .bool true), (0, .int .i64 (r / 4)), (1, .bool true), (0, .int .i64 (r / 8)), (1, .bool true), (0, .int .i64 (r / 16)), (0, .bool false)]
noncomputable def pairs1 (r : Int) : List (Value × Value) := [(.bool (ilt 65535 (r / 16)), .bool false), (.int .i64 (Int.fdiv r 16), .int .i64 (r / 16)), (.bool (ilt 65535 (r / 8)), .bool true), (.int .i64 (Int.fdiv r 8), .int .i64 (r / 8)), (.bool (ilt 65535 (r / 4)), .bool true), (.int .i64 (Int.fdiv r 4), .int .i64 (r / 4)), (.bool (ilt 65535 (r / 2)), .bool true), (.int .i64 (Int.fdiv r 2), .int .i64 (r / 2)), (.bool (ilt 65535 r), .bool true), (.int .i64 (Int.fdiv r 1), .int .i64 r)]
set_option maxRecDepth 100000 in
theorem run1 (x y r : Int) : finV (rn x y r 0 (pins1 r)) = wantV (rn x y r 0 (pins1 r)) (.int .i64 4) (pairs1 r) [] := by kernel_rfl
set_option maxRecDepth 100000 in
theorem path1 : ∀ (x y r : Int), InRange x y r → (ilt 65535 r) = true → (ilt 65535 (r / 2)) = true → (ilt 65535 (r / 4)) = true → (ilt 65535 (r / 8)) = true → (ilt 65535 (r / 16)) = false → Goal x y r := by
  intro x y r rg f0 f1 f2 f3 f4
  have r0 : r ≤ 1048576 := rg
  have f0 := ilt_t.mp f0
  have f1 := ilt_t.mp f1
  have f2 := ilt_t.mp f2
  have f3 := ilt_t.mp f3
  have f4 := ilt_f.mp f4
  exact goal (run1 x y r) (.cons (congrArg Value.bool ((ilt_f.mpr (by omega)))) (.cons (congrArg (Value.int .i64) ((fdiv_pos _ _ (by decide)).trans (by omega))) (.cons (congrArg Value.bool ((ilt_t.mpr (by omega)))) (.cons (congrArg (Value.int .i64) ((fdiv_pos _ _ (by decide)).trans (by omega))) (.cons (congrArg Value.bool ((ilt_t.mpr (by omega)))) (.cons (congrArg (Value.int .i64) ((fdiv_pos _ _ (by decide)).trans (by omega))) (.cons (congrArg Value.bool ((ilt_t.mpr (by omega)))) (.cons (congrArg (Value.int .i64) ((fdiv_pos _ _ (by decide)).trans (by omega))) (.cons (congrArg Value.bool ((ilt_t.mpr (by omega)))) (.cons (congrArg (Value.int .i64) ((fdiv_pos _ _ (by decide)).trans (by omega))) .nil)))))))))) (.nil) ((congrArg (Value.int .i64) (by rcases scl_cases (r := r) (by omega) with ⟨h, a⟩ | ⟨h, a⟩ | ⟨h, a⟩ | ⟨h, a⟩ | ⟨h, a⟩ | ⟨h, a⟩ <;> first | (rw [h]; rfl) | (exfalso; omega))))

noncomputable def pins2 (r : Int) : List (Nat × Value) := [(0, .int .i64 r), (1, .bool true), (0, .int .i64 (r / 2)), (1, .bool true), (0, .int .i64 (r / 4)), (1, .bool true), (0, .int .i64 (r / 8)), (0, .bool false)]
noncomputable def pairs2 (r : Int) : List (Value × Value) := [(.bool (ilt 65535 (r / 8)), .bool false), (.int .i64 (Int.fdiv r 8), .int .i64 (r / 8)), (.bool (ilt 65535 (r / 4)), .bool true), (.int .i64 (Int.fdiv r 4), .int .i64 (r / 4)), (.bool (ilt 65535 (r / 2)), .bool true), (.int .i64 (Int.fdiv r 2), .int .i64 (r / 2)), (.bool (ilt 65535 r), .bool true), (.int .i64 (Int.fdiv r 1), .int .i64 r)]
set_option maxRecDepth 100000 in
theorem run2 (x y r : Int) : finV (rn x y r 0 (pins2 r)) = wantV (rn x y r 0 (pins2 r)) (.int .i64 3) (pairs2 r) [] := by kernel_rfl
set_option maxRecDepth 100000 in
theorem path2 : ∀ (x y r : Int), InRange x y r → (ilt 65535 r) = true → (ilt 65535 (r / 2)) = true → (ilt 65535 (r / 4)) = true → (ilt 65535 (r / 8)) = false → Goal x y r := by
  intro x y r rg f0 f1 f2 f3
  have r0 : r ≤ 1048576 := rg
  have f0 := ilt_t.mp f0
  have f1 := ilt_t.mp f1
  have f2 := ilt_t.mp f2
  have f3 := ilt_f.mp f3
  exact goal (run2 x y r) (.cons (congrArg Value.bool ((ilt_f.mpr (by omega)))) (.cons (congrArg (Value.int .i64) ((fdiv_pos _ _ (by decide)).trans (by omega))) (.cons (congrArg Value.bool ((ilt_t.mpr (by omega)))) (.cons (congrArg (Value.int .i64) ((fdiv_pos _ _ (by decide)).trans (by omega))) (.cons (congrArg Value.bool ((ilt_t.mpr (by omega)))) (.cons (congrArg (Value.int .i64) ((fdiv_pos _ _ (by decide)).trans (by omega))) (.cons (congrArg Value.bool ((ilt_t.mpr (by omega)))) (.cons (congrArg (Value.int .i64) ((fdiv_pos _ _ (by decide)).trans (by omega))) .nil)))))))) (.nil) ((congrArg (Value.int .i64) (by rcases scl_cases (r := r) (by omega) with ⟨h, a⟩ | ⟨h, a⟩ | ⟨h, a⟩ | ⟨h, a⟩ | ⟨h, a⟩ | ⟨h, a⟩ <;> first | (rw [h]; rfl) | (exfalso; omega))))

noncomputable def pins3 (r : Int) : List (Nat × Value) := [(0, .int .i64 r), (1, .bool true), (0, .int .i64 (r / 2)), (1, .bool true), (0, .int .i64 (r / 4)), (0, .bool false)]
noncomputable def pairs3 (r : Int) : List (Value × Value) := [(.bool (ilt 65535 (r / 4)), .bool false), (.int .i64 (Int.fdiv r 4), .int .i64 (r / 4)), (.bool (ilt 65535 (r / 2)), .bool true), (.int .i64 (Int.fdiv r 2), .int .i64 (r / 2)), (.bool (ilt 65535 r), .bool true), (.int .i64 (Int.fdiv r 1), .int .i64 r)]
set_option maxRecDepth 100000 in
theorem run3 (x y r : Int) : finV (rn x y r 0 (pins3 r)) = wantV (rn x y r 0 (pins3 r)) (.int .i64 2) (pairs3 r) [] := by kernel_rfl
set_option maxRecDepth 100000 in
theorem path3 : ∀ (x y r : Int), InRange x y r → (ilt 65535 r) = true → (ilt 65535 (r / 2)) = true → (ilt 65535 (r / 4)) = false → Goal x y r := by
  intro x y r rg f0 f1 f2
  have r0 : r ≤ 1048576 := rg
  have f0 := ilt_t.mp f0
  have f1 := ilt_t.mp f1
  have f2 := ilt_f.mp f2
  exact goal (run3 x y r) (.cons (congrArg Value.bool ((ilt_f.mpr (by omega)))) (.cons (congrArg (Value.int .i64) ((fdiv_pos _ _ (by decide)).trans (by omega))) (.cons (congrArg Value.bool ((ilt_t.mpr (by omega)))) (.cons (congrArg (Value.int .i64) ((fdiv_pos _ _ (by decide)).trans (by omega))) (.cons (congrArg Value.bool ((ilt_t.mpr (by omega)))) (.cons (congrArg (Value.int .i64) ((fdiv_pos _ _ (by decide)).trans (by omega))) .nil)))))) (.nil) ((congrArg (Value.int .i64) (by rcases scl_cases (r := r) (by omega) with ⟨h, a⟩ | ⟨h, a⟩ | ⟨h, a⟩ | ⟨h, a⟩ | ⟨h, a⟩ | ⟨h, a⟩ <;> first | (rw [h]; rfl) | (exfalso; omega))))

noncomputable def pins4 (r : Int) : List (Nat × Value) := [(0, .int .i64 r), (1, .bool true), (0, .int .i64 (r / 2)), (0, .bool false)]
noncomputable def pairs4 (r : Int) : List (Value × Value) := [(.bool (ilt 65535 (r / 2)), .bool false), (.int .i64 (Int.fdiv r 2), .int .i64 (r / 2)), (.bool (ilt 65535 r), .bool true), (.int .i64 (Int.fdiv r 1), .int .i64 r)]
set_option maxRecDepth 100000 in
theorem run4 (x y r : Int) : finV (rn x y r 0 (pins4 r)) = wantV (rn x y r 0 (pins4 r)) (.int .i64 1) (pairs4 r) [] := by kernel_rfl
set_option maxRecDepth 100000 in
theorem path4 : ∀ (x y r : Int), InRange x y r → (ilt 65535 r) = true → (ilt 65535 (r / 2)) = false → Goal x y r := by
  intro x y r rg f0 f1
  have r0 : r ≤ 1048576 := rg
  have f0 := ilt_t.mp f0
  have f1 := ilt_f.mp f1
  exact goal (run4 x y r) (.cons (congrArg Value.bool ((ilt_f.mpr (by omega)))) (.cons (congrArg (Value.int .i64) ((fdiv_pos _ _ (by decide)).trans (by omega))) (.cons (congrArg Value.bool ((ilt_t.mpr (by omega)))) (.cons (congrArg (Value.int .i64) ((fdiv_pos _ _ (by decide)).trans (by omega))) .nil)))) (.nil) ((congrArg (Value.int .i64) (by rcases scl_cases (r := r) (by omega) with ⟨h, a⟩ | ⟨h, a⟩ | ⟨h, a⟩ | ⟨h, a⟩ | ⟨h, a⟩ | ⟨h, a⟩ <;> first | (rw [h]; rfl) | (exfalso; omega))))

noncomputable def pins5 (r : Int) : List (Nat × Value) := [(0, .int .i64 r), (0, .bool false)]
noncomputable def pairs5 (r : Int) : List (Value × Value) := [(.bool (ilt 65535 r), .bool false), (.int .i64 (Int.fdiv r 1), .int .i64 r)]
set_option maxRecDepth 100000 in
theorem run5 (x y r : Int) : finV (rn x y r 0 (pins5 r)) = wantV (rn x y r 0 (pins5 r)) (.int .i64 0) (pairs5 r) [] := by kernel_rfl
set_option maxRecDepth 100000 in
theorem path5 : ∀ (x y r : Int), InRange x y r → (ilt 65535 r) = false → Goal x y r := by
  intro x y r rg f0
  have r0 : r ≤ 1048576 := rg
  have f0 := ilt_f.mp f0
  exact goal (run5 x y r) (.cons (congrArg Value.bool ((ilt_f.mpr (by omega)))) (.cons (congrArg (Value.int .i64) ((fdiv_pos _ _ (by decide)).trans (by omega))) .nil)) (.nil) ((congrArg (Value.int .i64) (by rcases scl_cases (r := r) (by omega) with ⟨h, a⟩ | ⟨h, a⟩ | ⟨h, a⟩ | ⟨h, a⟩ | ⟨h, a⟩ | ⟨h, a⟩ <;> first | (rw [h]; rfl) | (exfalso; omega))))

end Go.Proofs.YtpncmonojhlheaaGreat.LgScale
namespace Go.Proofs.YtpncmonojhlheaaGreat.LgScale
open Go.Ev

set_option maxRecDepth 100000 in
theorem all : ∀ (x y r : Int), InRange x y r → Goal x y r := by
  intro x y r rg
  have r0 : r ≤ 1048576 := id rg
  rcases Bool.eq_false_or_eq_true (ilt 65535 r) with f0 | f0
  · rcases Bool.eq_false_or_eq_true (ilt 65535 (r / 2)) with f1 | f1
    · rcases Bool.eq_false_or_eq_true (ilt 65535 (r / 4)) with f2 | f2
      · rcases Bool.eq_false_or_eq_true (ilt 65535 (r / 8)) with f3 | f3
        · rcases Bool.eq_false_or_eq_true (ilt 65535 (r / 16)) with f4 | f4
          · exact path0 x y r rg f0 f1 f2 f3 f4
          · exact path1 x y r rg f0 f1 f2 f3 f4
        · exact path2 x y r rg f0 f1 f2 f3
      · exact path3 x y r rg f0 f1 f2
    · exact path4 x y r rg f0 f1
  · exact path5 x y r rg f0

end Go.Proofs.YtpncmonojhlheaaGreat.LgScale
