/- The function LgCheckT: what is to be shown of a run. No conditions. -/
import Derived.Test.YtpncmonojhlheaaGreatEvLgSeat
namespace Go.Proofs.YtpncmonojhlheaaGreat.LgCheckT
open Go.Ev

noncomputable def args : Int → Int → Int → Int → Int → Int → Int → Int → Int → List Value := fun m s r l mo fi t ms u => [.agg #[.int .i64 m, .int .i64 s, .int .i64 r, .int .i64 l, .int .i64 mo, .int .i64 fi, .int .i64 t, .int .i64 ms, .int .i64 u]]
def Goal (m s r l mo fi t ms u : Int) : Prop := ∃ hx, (cfun (envOf Tryz.prog 185 noCon) (cinv (envOf Tryz.prog 185 noCon) 1000) 1000 77).run (args m s r l mo fi t ms u) ⟨.nil, 0⟩ = some (.int .i64 (cond (okCfg m s r l mo fi t ms u) 0 1), hx)
noncomputable def rn (m s r l mo fi t ms u : Int) (c : Nat) (pins : List (Nat × Value)) : Option (Value × AH × Ob) := irunP Tryz.prog 185 noCon 1000 77 (args m s r l mo fi t ms u) ⟨.nil, 0⟩ c pins
def InRange : Int → Int → Int → Int → Int → Int → Int → Int → Int → Prop := fun _ _ _ _ _ _ _ _ _ => True
theorem goal {m s r l mo fi t ms u : Int} {pc : Nat} {pps : List (Nat × Value)} {pl : List (Value × Value)} {qs : List Prop} {pv : Value} (pe : finV (rn m s r l mo fi t ms u pc pps) = wantV (rn m s r l mo fi t ms u pc pps) pv pl qs) (phl : Same pl) (php : AllP qs) (hpv : pv = .int .i64 (cond (okCfg m s r l mo fi t ms u) 0 1)) : Goal m s r l mo fi t ms u := by
  subst hpv
  exact fin_runV pe phl (allP php)

end Go.Proofs.YtpncmonojhlheaaGreat.LgCheckT
namespace Go.Proofs.YtpncmonojhlheaaGreat.LgCheckT
open Go.Ev

noncomputable def pins0 : List (Nat × Value) := [(2, .bool true), (0, .bool true)]
noncomputable def pairs0 (m : Int) : List (Value × Value) := [(.bool (!(ile m 65455)), .bool true), (.bool (ile 88 m), .bool true)]
set_option maxRecDepth 100000 in
theorem run0 (m s r l mo fi t ms u : Int) : finV (rn m s r l mo fi t ms u 0 (pins0)) = wantV (rn m s r l mo fi t ms u 0 (pins0)) (.int .i64 1) (pairs0 m) [] := by kernel_rfl
set_option maxRecDepth 100000 in
theorem path0 : ∀ (m s r l mo fi t ms u : Int), InRange m s r l mo fi t ms u → (ile 88 m) = true → (!(ile m 65455)) = true → Goal m s r l mo fi t ms u := by
  intro m s r l mo fi t ms u rg f0 f1
  have _ := rg
  have f0 := ile_t.mp f0
  have f1 := ile_f.mp (not_t.mp f1)
  exact goal (run0 m s r l mo fi t ms u) (.cons (congrArg Value.bool ((not_t.mpr (ile_f.mpr (by omega))))) (.cons (congrArg Value.bool ((ile_t.mpr (by omega)))) .nil)) (.nil) ((by rw [okCfg_f.mpr (by omega)]; rfl))

noncomputable def pins1 : List (Nat × Value) := [(2, .bool true), (0, .bool false), (3, .bool true), (0, .bool true)]
noncomputable def pairs1 (m s : Int) : List (Value × Value) := [(.bool (!(ile s 1048576)), .bool true), (.bool (ile 1 s), .bool true), (.bool (!(ile m 65455)), .bool false), (.bool (ile 88 m), .bool true)]
set_option maxRecDepth 100000 in
theorem run1 (m s r l mo fi t ms u : Int) : finV (rn m s r l mo fi t ms u 0 (pins1)) = wantV (rn m s r l mo fi t ms u 0 (pins1)) (.int .i64 1) (pairs1 m s) [] := by kernel_rfl
set_option maxRecDepth 100000 in
theorem path1 : ∀ (m s r l mo fi t ms u : Int), InRange m s r l mo fi t ms u → (ile 88 m) = true → (!(ile m 65455)) = false → (ile 1 s) = true → (!(ile s 1048576)) = true → Goal m s r l mo fi t ms u := by
  intro m s r l mo fi t ms u rg f0 f1 f2 f3
  have _ := rg
  have f0 := ile_t.mp f0
  have f1 := ile_t.mp (not_f.mp f1)
  have f2 := ile_t.mp f2
  have f3 := ile_f.mp (not_t.mp f3)
  exact goal (run1 m s r l mo fi t ms u) (.cons (congrArg Value.bool ((not_t.mpr (ile_f.mpr (by omega))))) (.cons (congrArg Value.bool ((ile_t.mpr (by omega)))) (.cons (congrArg Value.bool ((not_f.mpr (ile_t.mpr (by omega))))) (.cons (congrArg Value.bool ((ile_t.mpr (by omega)))) .nil)))) (.nil) ((by rw [okCfg_f.mpr (by omega)]; rfl))

noncomputable def pins2 : List (Nat × Value) := [(2, .bool true), (0, .bool false), (3, .bool true), (0, .bool false), (3, .bool true), (0, .bool true)]
noncomputable def pairs2 (m s r : Int) : List (Value × Value) := [(.bool (!(ile r 1048576)), .bool true), (.bool (ile 1 r), .bool true), (.bool (!(ile s 1048576)), .bool false), (.bool (ile 1 s), .bool true), (.bool (!(ile m 65455)), .bool false), (.bool (ile 88 m), .bool true)]
set_option maxRecDepth 100000 in
theorem run2 (m s r l mo fi t ms u : Int) : finV (rn m s r l mo fi t ms u 0 (pins2)) = wantV (rn m s r l mo fi t ms u 0 (pins2)) (.int .i64 1) (pairs2 m s r) [] := by kernel_rfl
set_option maxRecDepth 100000 in
theorem path2 : ∀ (m s r l mo fi t ms u : Int), InRange m s r l mo fi t ms u → (ile 88 m) = true → (!(ile m 65455)) = false → (ile 1 s) = true → (!(ile s 1048576)) = false → (ile 1 r) = true → (!(ile r 1048576)) = true → Goal m s r l mo fi t ms u := by
  intro m s r l mo fi t ms u rg f0 f1 f2 f3 f4 f5
  have _ := rg
  have f0 := ile_t.mp f0
  have f1 := ile_t.mp (not_f.mp f1)
  have f2 := ile_t.mp f2
  have f3 := ile_t.mp (not_f.mp f3)
  have f4 := ile_t.mp f4
  have f5 := ile_f.mp (not_t.mp f5)
  exact goal (run2 m s r l mo fi t ms u) (.cons (congrArg Value.bool ((not_t.mpr (ile_f.mpr (by omega))))) (.cons (congrArg Value.bool ((ile_t.mpr (by omega)))) (.cons (congrArg Value.bool ((not_f.mpr (ile_t.mpr (by omega))))) (.cons (congrArg Value.bool ((ile_t.mpr (by omega)))) (.cons (congrArg Value.bool ((not_f.mpr (ile_t.mpr (by omega))))) (.cons (congrArg Value.bool ((ile_t.mpr (by omega)))) .nil)))))) (.nil) ((by rw [okCfg_f.mpr (by omega)]; rfl))

noncomputable def pins3 : List (Nat × Value) := [(2, .bool true), (0, .bool false), (3, .bool true), (0, .bool false), (3, .bool true), (0, .bool false), (0, .bool true)]
noncomputable def pairs3 (m s r l : Int) : List (Value × Value) := [(.bool (ilt l 1), .bool true), (.bool (!(ile r 1048576)), .bool false), (.bool (ile 1 r), .bool true), (.bool (!(ile s 1048576)), .bool false), (.bool (ile 1 s), .bool true), (.bool (!(ile m 65455)), .bool false), (.bool (ile 88 m), .bool true)]
set_option maxRecDepth 100000 in
theorem run3 (m s r l mo fi t ms u : Int) : finV (rn m s r l mo fi t ms u 0 (pins3)) = wantV (rn m s r l mo fi t ms u 0 (pins3)) (.int .i64 1) (pairs3 m s r l) [] := by kernel_rfl
set_option maxRecDepth 100000 in
theorem path3 : ∀ (m s r l mo fi t ms u : Int), InRange m s r l mo fi t ms u → (ile 88 m) = true → (!(ile m 65455)) = false → (ile 1 s) = true → (!(ile s 1048576)) = false → (ile 1 r) = true → (!(ile r 1048576)) = false → (ilt l 1) = true → Goal m s r l mo fi t ms u := by
  intro m s r l mo fi t ms u rg f0 f1 f2 f3 f4 f5 f6
  have _ := rg
  have f0 := ile_t.mp f0
  have f1 := ile_t.mp (not_f.mp f1)
  have f2 := ile_t.mp f2
  have f3 := ile_t.mp (not_f.mp f3)
  have f4 := ile_t.mp f4
  have f5 := ile_t.mp (not_f.mp f5)
  have f6 := ilt_t.mp f6
  exact goal (run3 m s r l mo fi t ms u) (.cons (congrArg Value.bool ((ilt_t.mpr (by omega)))) (.cons (congrArg Value.bool ((not_f.mpr (ile_t.mpr (by omega))))) (.cons (congrArg Value.bool ((ile_t.mpr (by omega)))) (.cons (congrArg Value.bool ((not_f.mpr (ile_t.mpr (by omega))))) (.cons (congrArg Value.bool ((ile_t.mpr (by omega)))) (.cons (congrArg Value.bool ((not_f.mpr (ile_t.mpr (by omega))))) (.cons (congrArg Value.bool ((ile_t.mpr (by omega)))) .nil))))))) (.nil) ((by rw [okCfg_f.mpr (by omega)]; rfl))

noncomputable def pins4 : List (Nat × Value) := [(2, .bool true), (0, .bool false), (3, .bool true), (0, .bool false), (3, .bool true), (0, .bool false), (1, .bool false), (0, .bool true)]
noncomputable def pairs4 (m s r l fi : Int) : List (Value × Value) := [(.bool (ilt fi l), .bool true), (.bool (ilt l 1), .bool false), (.bool (!(ile r 1048576)), .bool false), (.bool (ile 1 r), .bool true), (.bool (!(ile s 1048576)), .bool false), (.bool (ile 1 s), .bool true), (.bool (!(ile m 65455)), .bool false), (.bool (ile 88 m), .bool true)]
set_option maxRecDepth 100000 in
theorem run4 (m s r l mo fi t ms u : Int) : finV (rn m s r l mo fi t ms u 0 (pins4)) = wantV (rn m s r l mo fi t ms u 0 (pins4)) (.int .i64 1) (pairs4 m s r l fi) [] := by kernel_rfl
set_option maxRecDepth 100000 in
theorem path4 : ∀ (m s r l mo fi t ms u : Int), InRange m s r l mo fi t ms u → (ile 88 m) = true → (!(ile m 65455)) = false → (ile 1 s) = true → (!(ile s 1048576)) = false → (ile 1 r) = true → (!(ile r 1048576)) = false → (ilt l 1) = false → (ilt fi l) = true → Goal m s r l mo fi t ms u := by
  intro m s r l mo fi t ms u rg f0 f1 f2 f3 f4 f5 f6 f7
  have _ := rg
  have f0 := ile_t.mp f0
  have f1 := ile_t.mp (not_f.mp f1)
  have f2 := ile_t.mp f2
  have f3 := ile_t.mp (not_f.mp f3)
  have f4 := ile_t.mp f4
  have f5 := ile_t.mp (not_f.mp f5)
  have f6 := ilt_f.mp f6
  have f7 := ilt_t.mp f7
  exact goal (run4 m s r l mo fi t ms u) (.cons (congrArg Value.bool ((ilt_t.mpr (by omega)))) (.cons (congrArg Value.bool ((ilt_f.mpr (by omega)))) (.cons (congrArg Value.bool ((not_f.mpr (ile_t.mpr (by omega))))) (.cons (congrArg Value.bool ((ile_t.mpr (by omega)))) (.cons (congrArg Value.bool ((not_f.mpr (ile_t.mpr (by omega))))) (.cons (congrArg Value.bool ((ile_t.mpr (by omega)))) (.cons (congrArg Value.bool ((not_f.mpr (ile_t.mpr (by omega))))) (.cons (congrArg Value.bool ((ile_t.mpr (by omega)))) .nil)))))))) (.nil) ((by rw [okCfg_f.mpr (by omega)]; rfl))

noncomputable def pins5 : List (Nat × Value) := [(2, .bool true), (0, .bool false), (3, .bool true), (0, .bool false), (3, .bool true), (0, .bool false), (1, .bool false), (1, .bool false), (0, .bool true)]
noncomputable def pairs5 (m s r l mo fi : Int) : List (Value × Value) := [(.bool (ilt mo fi), .bool true), (.bool (ilt fi l), .bool false), (.bool (ilt l 1), .bool false), (.bool (!(ile r 1048576)), .bool false), (.bool (ile 1 r), .bool true), (.bool (!(ile s 1048576)), .bool false), (.bool (ile 1 s), .bool true), (.bool (!(ile m 65455)), .bool false), (.bool (ile 88 m), .bool true)]
set_option maxRecDepth 100000 in
theorem run5 (m s r l mo fi t ms u : Int) : finV (rn m s r l mo fi t ms u 0 (pins5)) = wantV (rn m s r l mo fi t ms u 0 (pins5)) (.int .i64 1) (pairs5 m s r l mo fi) [] := by kernel_rfl
set_option maxRecDepth 100000 in
theorem path5 : ∀ (m s r l mo fi t ms u : Int), InRange m s r l mo fi t ms u → (ile 88 m) = true → (!(ile m 65455)) = false → (ile 1 s) = true → (!(ile s 1048576)) = false → (ile 1 r) = true → (!(ile r 1048576)) = false → (ilt l 1) = false → (ilt fi l) = false → (ilt mo fi) = true → Goal m s r l mo fi t ms u := by
  intro m s r l mo fi t ms u rg f0 f1 f2 f3 f4 f5 f6 f7 f8
  have _ := rg
  have f0 := ile_t.mp f0
  have f1 := ile_t.mp (not_f.mp f1)
  have f2 := ile_t.mp f2
  have f3 := ile_t.mp (not_f.mp f3)
  have f4 := ile_t.mp f4
  have f5 := ile_t.mp (not_f.mp f5)
  have f6 := ilt_f.mp f6
  have f7 := ilt_f.mp f7
  have f8 := ilt_t.mp f8
  exact goal (run5 m s r l mo fi t ms u) (.cons (congrArg Value.bool ((ilt_t.mpr (by omega)))) (.cons (congrArg Value.bool ((ilt_f.mpr (by omega)))) (.cons (congrArg Value.bool ((ilt_f.mpr (by omega)))) (.cons (congrArg Value.bool ((not_f.mpr (ile_t.mpr (by omega))))) (.cons (congrArg Value.bool ((ile_t.mpr (by omega)))) (.cons (congrArg Value.bool ((not_f.mpr (ile_t.mpr (by omega))))) (.cons (congrArg Value.bool ((ile_t.mpr (by omega)))) (.cons (congrArg Value.bool ((not_f.mpr (ile_t.mpr (by omega))))) (.cons (congrArg Value.bool ((ile_t.mpr (by omega)))) .nil))))))))) (.nil) ((by rw [okCfg_f.mpr (by omega)]; rfl))

noncomputable def pins6 : List (Nat × Value) := [(2, .bool true), (0, .bool false), (3, .bool true), (0, .bool false), (3, .bool true), (0, .bool false), (1, .bool false), (1, .bool false), (1, .bool false), (0, .bool true)]
noncomputable def pairs6 (m s r l mo fi : Int) : List (Value × Value) := [(.bool (ilt 1073741824 mo), .bool true), (.bool (ilt mo fi), .bool false), (.bool (ilt fi l), .bool false), (.bool (ilt l 1), .bool false), (.bool (!(ile r 1048576)), .bool false), (.bool (ile 1 r), .bool true), (.bool (!(ile s 1048576)), .bool false), (.bool (ile 1 s), .bool true), (.bool (!(ile m 65455)), .bool false), (.bool (ile 88 m), .bool true)]
set_option maxRecDepth 100000 in
theorem run6 (m s r l mo fi t ms u : Int) : finV (rn m s r l mo fi t ms u 0 (pins6)) = wantV (rn m s r l mo fi t ms u 0 (pins6)) (.int .i64 1) (pairs6 m s r l mo fi) [] := by kernel_rfl
set_option maxRecDepth 100000 in
theorem path6 : ∀ (m s r l mo fi t ms u : Int), InRange m s r l mo fi t ms u → (ile 88 m) = true → (!(ile m 65455)) = false → (ile 1 s) = true → (!(ile s 1048576)) = false → (ile 1 r) = true → (!(ile r 1048576)) = false → (ilt l 1) = false → (ilt fi l) = false → (ilt mo fi) = false → (ilt 1073741824 mo) = true → Goal m s r l mo fi t ms u := by
  intro m s r l mo fi t ms u rg f0 f1 f2 f3 f4 f5 f6 f7 f8 f9
  have _ := rg
  have f0 := ile_t.mp f0
  have f1 := ile_t.mp (not_f.mp f1)
  have f2 := ile_t.mp f2
  have f3 := ile_t.mp (not_f.mp f3)
  have f4 := ile_t.mp f4
  have f5 := ile_t.mp (not_f.mp f5)
  have f6 := ilt_f.mp f6
  have f7 := ilt_f.mp f7
  have f8 := ilt_f.mp f8
  have f9 := ilt_t.mp f9
  exact goal (run6 m s r l mo fi t ms u) (.cons (congrArg Value.bool ((ilt_t.mpr (by omega)))) (.cons (congrArg Value.bool ((ilt_f.mpr (by omega)))) (.cons (congrArg Value.bool ((ilt_f.mpr (by omega)))) (.cons (congrArg Value.bool ((ilt_f.mpr (by omega)))) (.cons (congrArg Value.bool ((not_f.mpr (ile_t.mpr (by omega))))) (.cons (congrArg Value.bool ((ile_t.mpr (by omega)))) (.cons (congrArg Value.bool ((not_f.mpr (ile_t.mpr (by omega))))) (.cons (congrArg Value.bool ((ile_t.mpr (by omega)))) (.cons (congrArg Value.bool ((not_f.mpr (ile_t.mpr (by omega))))) (.cons (congrArg Value.bool ((ile_t.mpr (by omega)))) .nil)))))))))) (.nil) ((by rw [okCfg_f.mpr (by omega)]; rfl))

noncomputable def pins7 : List (Nat × Value) := [(2, .bool true), (0, .bool false), (3, .bool true), (0, .bool false), (3, .bool true), (0, .bool false), (1, .bool false), (1, .bool false), (1, .bool false), (2, .bool false), (0, .bool true)]
noncomputable def pairs7 (m s r l mo fi : Int) : List (Value × Value) := [(.bool (ilt 1048576 mo), .bool true), (.bool (ilt 1073741824 mo), .bool false), (.bool (ilt mo fi), .bool false), (.bool (ilt fi l), .bool false), (.bool (ilt l 1), .bool false), (.bool (!(ile r 1048576)), .bool false), (.bool (ile 1 r), .bool true), (.bool (!(ile s 1048576)), .bool false), (.bool (ile 1 s), .bool true), (.bool (!(ile m 65455)), .bool false), (.bool (ile 88 m), .bool true)]
set_option maxRecDepth 100000 in
theorem run7 (m s r l mo fi t ms u : Int) : finV (rn m s r l mo fi t ms u 0 (pins7)) = wantV (rn m s r l mo fi t ms u 0 (pins7)) (.int .i64 1) (pairs7 m s r l mo fi) [] := by kernel_rfl
set_option maxRecDepth 100000 in
theorem path7 : ∀ (m s r l mo fi t ms u : Int), InRange m s r l mo fi t ms u → (ile 88 m) = true → (!(ile m 65455)) = false → (ile 1 s) = true → (!(ile s 1048576)) = false → (ile 1 r) = true → (!(ile r 1048576)) = false → (ilt l 1) = false → (ilt fi l) = false → (ilt mo fi) = false → (ilt 1073741824 mo) = false → (ilt 1048576 mo) = true → Goal m s r l mo fi t ms u := by
  intro m s r l mo fi t ms u rg f0 f1 f2 f3 f4 f5 f6 f7 f8 f9 f10
  have _ := rg
  have f0 := ile_t.mp f0
  have f1 := ile_t.mp (not_f.mp f1)
  have f2 := ile_t.mp f2
  have f3 := ile_t.mp (not_f.mp f3)
  have f4 := ile_t.mp f4
  have f5 := ile_t.mp (not_f.mp f5)
  have f6 := ilt_f.mp f6
  have f7 := ilt_f.mp f7
  have f8 := ilt_f.mp f8
  have f9 := ilt_f.mp f9
  have f10 := ilt_t.mp f10
  exact goal (run7 m s r l mo fi t ms u) (.cons (congrArg Value.bool ((ilt_t.mpr (by omega)))) (.cons (congrArg Value.bool ((ilt_f.mpr (by omega)))) (.cons (congrArg Value.bool ((ilt_f.mpr (by omega)))) (.cons (congrArg Value.bool ((ilt_f.mpr (by omega)))) (.cons (congrArg Value.bool ((ilt_f.mpr (by omega)))) (.cons (congrArg Value.bool ((not_f.mpr (ile_t.mpr (by omega))))) (.cons (congrArg Value.bool ((ile_t.mpr (by omega)))) (.cons (congrArg Value.bool ((not_f.mpr (ile_t.mpr (by omega))))) (.cons (congrArg Value.bool ((ile_t.mpr (by omega)))) (.cons (congrArg Value.bool ((not_f.mpr (ile_t.mpr (by omega))))) (.cons (congrArg Value.bool ((ile_t.mpr (by omega)))) .nil))))))))))) (.nil) ((by rw [okCfg_f.mpr (by omega)]; rfl))

noncomputable def pins8 : List (Nat × Value) := [(2, .bool true), (0, .bool false), (3, .bool true), (0, .bool false), (3, .bool true), (0, .bool false), (1, .bool false), (1, .bool false), (1, .bool false), (2, .bool false), (0, .bool false), (2, .bool true), (0, .bool true)]
noncomputable def pairs8 (m s r l mo fi t : Int) : List (Value × Value) := [(.bool (!(ile t 30)), .bool true), (.bool (ile 1 t), .bool true), (.bool (ilt 1048576 mo), .bool false), (.bool (ilt 1073741824 mo), .bool false), (.bool (ilt mo fi), .bool false), (.bool (ilt fi l), .bool false), (.bool (ilt l 1), .bool false), (.bool (!(ile r 1048576)), .bool false), (.bool (ile 1 r), .bool true), (.bool (!(ile s 1048576)), .bool false), (.bool (ile 1 s), .bool true), (.bool (!(ile m 65455)), .bool false), (.bool (ile 88 m), .bool true)]
set_option maxRecDepth 100000 in
theorem run8 (m s r l mo fi t ms u : Int) : finV (rn m s r l mo fi t ms u 0 (pins8)) = wantV (rn m s r l mo fi t ms u 0 (pins8)) (.int .i64 1) (pairs8 m s r l mo fi t) [] := by kernel_rfl
set_option maxRecDepth 100000 in
theorem path8 : ∀ (m s r l mo fi t ms u : Int), InRange m s r l mo fi t ms u → (ile 88 m) = true → (!(ile m 65455)) = false → (ile 1 s) = true → (!(ile s 1048576)) = false → (ile 1 r) = true → (!(ile r 1048576)) = false → (ilt l 1) = false → (ilt fi l) = false → (ilt mo fi) = false → (ilt 1073741824 mo) = false → (ilt 1048576 mo) = false → (ile 1 t) = true → (!(ile t 30)) = true → Goal m s r l mo fi t ms u := by
  intro m s r l mo fi t ms u rg f0 f1 f2 f3 f4 f5 f6 f7 f8 f9 f10 f11 f12
  have _ := rg
  have f0 := ile_t.mp f0
  have f1 := ile_t.mp (not_f.mp f1)
  have f2 := ile_t.mp f2
  have f3 := ile_t.mp (not_f.mp f3)
  have f4 := ile_t.mp f4
  have f5 := ile_t.mp (not_f.mp f5)
  have f6 := ilt_f.mp f6
  have f7 := ilt_f.mp f7
  have f8 := ilt_f.mp f8
  have f9 := ilt_f.mp f9
  have f10 := ilt_f.mp f10
  have f11 := ile_t.mp f11
  have f12 := ile_f.mp (not_t.mp f12)
  exact goal (run8 m s r l mo fi t ms u) (.cons (congrArg Value.bool ((not_t.mpr (ile_f.mpr (by omega))))) (.cons (congrArg Value.bool ((ile_t.mpr (by omega)))) (.cons (congrArg Value.bool ((ilt_f.mpr (by omega)))) (.cons (congrArg Value.bool ((ilt_f.mpr (by omega)))) (.cons (congrArg Value.bool ((ilt_f.mpr (by omega)))) (.cons (congrArg Value.bool ((ilt_f.mpr (by omega)))) (.cons (congrArg Value.bool ((ilt_f.mpr (by omega)))) (.cons (congrArg Value.bool ((not_f.mpr (ile_t.mpr (by omega))))) (.cons (congrArg Value.bool ((ile_t.mpr (by omega)))) (.cons (congrArg Value.bool ((not_f.mpr (ile_t.mpr (by omega))))) (.cons (congrArg Value.bool ((ile_t.mpr (by omega)))) (.cons (congrArg Value.bool ((not_f.mpr (ile_t.mpr (by omega))))) (.cons (congrArg Value.bool ((ile_t.mpr (by omega)))) .nil))))))))))))) (.nil) ((by rw [okCfg_f.mpr (by omega)]; rfl))

noncomputable def pins9 : List (Nat × Value) := [(2, .bool true), (0, .bool false), (3, .bool true), (0, .bool false), (3, .bool true), (0, .bool false), (1, .bool false), (1, .bool false), (1, .bool false), (2, .bool false), (0, .bool false), (2, .bool true), (0, .bool false), (3, .bool true), (0, .bool true)]
noncomputable def pairs9 (m s r l mo fi t ms : Int) : List (Value × Value) := [(.bool (!(ile ms 1048576)), .bool true), (.bool (ile 1 ms), .bool true), (.bool (!(ile t 30)), .bool false), (.bool (ile 1 t), .bool true), (.bool (ilt 1048576 mo), .bool false), (.bool (ilt 1073741824 mo), .bool false), (.bool (ilt mo fi), .bool false), (.bool (ilt fi l), .bool false), (.bool (ilt l 1), .bool false), (.bool (!(ile r 1048576)), .bool false), (.bool (ile 1 r), .bool true), (.bool (!(ile s 1048576)), .bool false), (.bool (ile 1 s), .bool true), (.bool (!(ile m 65455)), .bool false), (.bool (ile 88 m), .bool true)]
set_option maxRecDepth 100000 in
theorem run9 (m s r l mo fi t ms u : Int) : finV (rn m s r l mo fi t ms u 0 (pins9)) = wantV (rn m s r l mo fi t ms u 0 (pins9)) (.int .i64 1) (pairs9 m s r l mo fi t ms) [] := by kernel_rfl
set_option maxRecDepth 100000 in
theorem path9 : ∀ (m s r l mo fi t ms u : Int), InRange m s r l mo fi t ms u → (ile 88 m) = true → (!(ile m 65455)) = false → (ile 1 s) = true → (!(ile s 1048576)) = false → (ile 1 r) = true → (!(ile r 1048576)) = false → (ilt l 1) = false → (ilt fi l) = false → (ilt mo fi) = false → (ilt 1073741824 mo) = false → (ilt 1048576 mo) = false → (ile 1 t) = true → (!(ile t 30)) = false → (ile 1 ms) = true → (!(ile ms 1048576)) = true → Goal m s r l mo fi t ms u := by
  intro m s r l mo fi t ms u rg f0 f1 f2 f3 f4 f5 f6 f7 f8 f9 f10 f11 f12 f13 f14
  have _ := rg
  have f0 := ile_t.mp f0
  have f1 := ile_t.mp (not_f.mp f1)
  have f2 := ile_t.mp f2
  have f3 := ile_t.mp (not_f.mp f3)
  have f4 := ile_t.mp f4
  have f5 := ile_t.mp (not_f.mp f5)
  have f6 := ilt_f.mp f6
  have f7 := ilt_f.mp f7
  have f8 := ilt_f.mp f8
  have f9 := ilt_f.mp f9
  have f10 := ilt_f.mp f10
  have f11 := ile_t.mp f11
  have f12 := ile_t.mp (not_f.mp f12)
  have f13 := ile_t.mp f13
  have f14 := ile_f.mp (not_t.mp f14)
  exact goal (run9 m s r l mo fi t ms u) (.cons (congrArg Value.bool ((not_t.mpr (ile_f.mpr (by omega))))) (.cons (congrArg Value.bool ((ile_t.mpr (by omega)))) (.cons (congrArg Value.bool ((not_f.mpr (ile_t.mpr (by omega))))) (.cons (congrArg Value.bool ((ile_t.mpr (by omega)))) (.cons (congrArg Value.bool ((ilt_f.mpr (by omega)))) (.cons (congrArg Value.bool ((ilt_f.mpr (by omega)))) (.cons (congrArg Value.bool ((ilt_f.mpr (by omega)))) (.cons (congrArg Value.bool ((ilt_f.mpr (by omega)))) (.cons (congrArg Value.bool ((ilt_f.mpr (by omega)))) (.cons (congrArg Value.bool ((not_f.mpr (ile_t.mpr (by omega))))) (.cons (congrArg Value.bool ((ile_t.mpr (by omega)))) (.cons (congrArg Value.bool ((not_f.mpr (ile_t.mpr (by omega))))) (.cons (congrArg Value.bool ((ile_t.mpr (by omega)))) (.cons (congrArg Value.bool ((not_f.mpr (ile_t.mpr (by omega))))) (.cons (congrArg Value.bool ((ile_t.mpr (by omega)))) .nil))))))))))))))) (.nil) ((by rw [okCfg_f.mpr (by omega)]; rfl))

noncomputable def pins10 : List (Nat × Value) := [(2, .bool true), (0, .bool false), (3, .bool true), (0, .bool false), (3, .bool true), (0, .bool false), (1, .bool false), (1, .bool false), (1, .bool false), (2, .bool false), (0, .bool false), (2, .bool true), (0, .bool false), (3, .bool true), (0, .bool false), (3, .bool true), (0, .bool true)]
noncomputable def pairs10 (m s r l mo fi t ms u : Int) : List (Value × Value) := [(.bool (!(ile u 1048576)), .bool true), (.bool (ile 1 u), .bool true), (.bool (!(ile ms 1048576)), .bool false), (.bool (ile 1 ms), .bool true), (.bool (!(ile t 30)), .bool false), (.bool (ile 1 t), .bool true), (.bool (ilt 1048576 mo), .bool false), (.bool (ilt 1073741824 mo), .bool false), (.bool (ilt mo fi), .bool false), (.bool (ilt fi l), .bool false), (.bool (ilt l 1), .bool false), (.bool (!(ile r 1048576)), .bool false), (.bool (ile 1 r), .bool true), (.bool (!(ile s 1048576)), .bool false), (.bool (ile 1 s), .bool true), (.bool (!(ile m 65455)), .bool false), (.bool (ile 88 m), .bool true)]
set_option maxRecDepth 100000 in
theorem run10 (m s r l mo fi t ms u : Int) : finV (rn m s r l mo fi t ms u 0 (pins10)) = wantV (rn m s r l mo fi t ms u 0 (pins10)) (.int .i64 1) (pairs10 m s r l mo fi t ms u) [] := by kernel_rfl
set_option maxRecDepth 100000 in
theorem path10 : ∀ (m s r l mo fi t ms u : Int), InRange m s r l mo fi t ms u → (ile 88 m) = true → (!(ile m 65455)) = false → (ile 1 s) = true → (!(ile s 1048576)) = false → (ile 1 r) = true → (!(ile r 1048576)) = false → (ilt l 1) = false → (ilt fi l) = false → (ilt mo fi) = false → (ilt 1073741824 mo) = false → (ilt 1048576 mo) = false → (ile 1 t) = true → (!(ile t 30)) = false → (ile 1 ms) = true → (!(ile ms 1048576)) = false → (ile 1 u) = true → (!(ile u 1048576)) = true → Goal m s r l mo fi t ms u := by
  intro m s r l mo fi t ms u rg f0 f1 f2 f3 f4 f5 f6 f7 f8 f9 f10 f11 f12 f13 f14 f15 f16
  have _ := rg
  have f0 := ile_t.mp f0
  have f1 := ile_t.mp (not_f.mp f1)
  have f2 := ile_t.mp f2
  have f3 := ile_t.mp (not_f.mp f3)
  have f4 := ile_t.mp f4
  have f5 := ile_t.mp (not_f.mp f5)
  have f6 := ilt_f.mp f6
  have f7 := ilt_f.mp f7
  have f8 := ilt_f.mp f8
  have f9 := ilt_f.mp f9
  have f10 := ilt_f.mp f10
  have f11 := ile_t.mp f11
  have f12 := ile_t.mp (not_f.mp f12)
  have f13 := ile_t.mp f13
  have f14 := ile_t.mp (not_f.mp f14)
  have f15 := ile_t.mp f15
  have f16 := ile_f.mp (not_t.mp f16)
  exact goal (run10 m s r l mo fi t ms u) (.cons (congrArg Value.bool ((not_t.mpr (ile_f.mpr (by omega))))) (.cons (congrArg Value.bool ((ile_t.mpr (by omega)))) (.cons (congrArg Value.bool ((not_f.mpr (ile_t.mpr (by omega))))) (.cons (congrArg Value.bool ((ile_t.mpr (by omega)))) (.cons (congrArg Value.bool ((not_f.mpr (ile_t.mpr (by omega))))) (.cons (congrArg Value.bool ((ile_t.mpr (by omega)))) (.cons (congrArg Value.bool ((ilt_f.mpr (by omega)))) (.cons (congrArg Value.bool ((ilt_f.mpr (by omega)))) (.cons (congrArg Value.bool ((ilt_f.mpr (by omega)))) (.cons (congrArg Value.bool ((ilt_f.mpr (by omega)))) (.cons (congrArg Value.bool ((ilt_f.mpr (by omega)))) (.cons (congrArg Value.bool ((not_f.mpr (ile_t.mpr (by omega))))) (.cons (congrArg Value.bool ((ile_t.mpr (by omega)))) (.cons (congrArg Value.bool ((not_f.mpr (ile_t.mpr (by omega))))) (.cons (congrArg Value.bool ((ile_t.mpr (by omega)))) (.cons (congrArg Value.bool ((not_f.mpr (ile_t.mpr (by omega))))) (.cons (congrArg Value.bool ((ile_t.mpr (by omega)))) .nil))))))))))))))))) (.nil) ((by rw [okCfg_f.mpr (by omega)]; rfl))

noncomputable def pins11 : List (Nat × Value) := [(2, .bool true), (0, .bool false), (3, .bool true), (0, .bool false), (3, .bool true), (0, .bool false), (1, .bool false), (1, .bool false), (1, .bool false), (2, .bool false), (0, .bool false), (2, .bool true), (0, .bool false), (3, .bool true), (0, .bool false), (3, .bool true), (0, .bool false)]
noncomputable def pairs11 (m s r l mo fi t ms u : Int) : List (Value × Value) := [(.bool (!(ile u 1048576)), .bool false), (.bool (ile 1 u), .bool true), (.bool (!(ile ms 1048576)), .bool false), (.bool (ile 1 ms), .bool true), (.bool (!(ile t 30)), .bool false), (.bool (ile 1 t), .bool true), (.bool (ilt 1048576 mo), .bool false), (.bool (ilt 1073741824 mo), .bool false), (.bool (ilt mo fi), .bool false), (.bool (ilt fi l), .bool false), (.bool (ilt l 1), .bool false), (.bool (!(ile r 1048576)), .bool false), (.bool (ile 1 r), .bool true), (.bool (!(ile s 1048576)), .bool false), (.bool (ile 1 s), .bool true), (.bool (!(ile m 65455)), .bool false), (.bool (ile 88 m), .bool true)]
set_option maxRecDepth 100000 in
theorem run11 (m s r l mo fi t ms u : Int) : finV (rn m s r l mo fi t ms u 0 (pins11)) = wantV (rn m s r l mo fi t ms u 0 (pins11)) (.int .i64 0) (pairs11 m s r l mo fi t ms u) [] := by kernel_rfl
set_option maxRecDepth 100000 in
theorem path11 : ∀ (m s r l mo fi t ms u : Int), InRange m s r l mo fi t ms u → (ile 88 m) = true → (!(ile m 65455)) = false → (ile 1 s) = true → (!(ile s 1048576)) = false → (ile 1 r) = true → (!(ile r 1048576)) = false → (ilt l 1) = false → (ilt fi l) = false → (ilt mo fi) = false → (ilt 1073741824 mo) = false → (ilt 1048576 mo) = false → (ile 1 t) = true → (!(ile t 30)) = false → (ile 1 ms) = true → (!(ile ms 1048576)) = false → (ile 1 u) = true → (!(ile u 1048576)) = false → Goal m s r l mo fi t ms u := by
  intro m s r l mo fi t ms u rg f0 f1 f2 f3 f4 f5 f6 f7 f8 f9 f10 f11 f12 f13 f14 f15 f16
  have _ := rg
  have f0 := ile_t.mp f0
  have f1 := ile_t.mp (not_f.mp f1)
  have f2 := ile_t.mp f2
  have f3 := ile_t.mp (not_f.mp f3)
  have f4 := ile_t.mp f4
  have f5 := ile_t.mp (not_f.mp f5)
  have f6 := ilt_f.mp f6
  have f7 := ilt_f.mp f7
  have f8 := ilt_f.mp f8
  have f9 := ilt_f.mp f9
  have f10 := ilt_f.mp f10
  have f11 := ile_t.mp f11
  have f12 := ile_t.mp (not_f.mp f12)
  have f13 := ile_t.mp f13
  have f14 := ile_t.mp (not_f.mp f14)
  have f15 := ile_t.mp f15
  have f16 := ile_t.mp (not_f.mp f16)
  exact goal (run11 m s r l mo fi t ms u) (.cons (congrArg Value.bool ((not_f.mpr (ile_t.mpr (by omega))))) (.cons (congrArg Value.bool ((ile_t.mpr (by omega)))) (.cons (congrArg Value.bool ((not_f.mpr (ile_t.mpr (by omega))))) (.cons (congrArg Value.bool ((ile_t.mpr (by omega)))) (.cons (congrArg Value.bool ((not_f.mpr (ile_t.mpr (by omega))))) (.cons (congrArg Value.bool ((ile_t.mpr (by omega)))) (.cons (congrArg Value.bool ((ilt_f.mpr (by omega)))) (.cons (congrArg Value.bool ((ilt_f.mpr (by omega)))) (.cons (congrArg Value.bool ((ilt_f.mpr (by omega)))) (.cons (congrArg Value.bool ((ilt_f.mpr (by omega)))) (.cons (congrArg Value.bool ((ilt_f.mpr (by omega)))) (.cons (congrArg Value.bool ((not_f.mpr (ile_t.mpr (by omega))))) (.cons (congrArg Value.bool ((ile_t.mpr (by omega)))) (.cons (congrArg Value.bool ((not_f.mpr (ile_t.mpr (by omega))))) (.cons (congrArg Value.bool ((ile_t.mpr (by omega)))) (.cons (congrArg Value.bool ((not_f.mpr (ile_t.mpr (by omega))))) (.cons (congrArg Value.bool ((ile_t.mpr (by omega)))) .nil))))))))))))))))) (.nil) ((by rw [okCfg_t.mpr (by omega)]; rfl))

noncomputable def pins12 : List (Nat × Value) := [(2, .bool true), (0, .bool false), (3, .bool true), (0, .bool false), (3, .bool true), (0, .bool false), (1, .bool false), (1, .bool false), (1, .bool false), (2, .bool false), (0, .bool false), (2, .bool true), (0, .bool false), (3, .bool true), (0, .bool false), (0, .bool false)]
noncomputable def pairs12 (m s r l mo fi t ms u : Int) : List (Value × Value) := [(.bool (ile 1 u), .bool false), (.bool (!(ile ms 1048576)), .bool false), (.bool (ile 1 ms), .bool true), (.bool (!(ile t 30)), .bool false), (.bool (ile 1 t), .bool true), (.bool (ilt 1048576 mo), .bool false), (.bool (ilt 1073741824 mo), .bool false), (.bool (ilt mo fi), .bool false), (.bool (ilt fi l), .bool false), (.bool (ilt l 1), .bool false), (.bool (!(ile r 1048576)), .bool false), (.bool (ile 1 r), .bool true), (.bool (!(ile s 1048576)), .bool false), (.bool (ile 1 s), .bool true), (.bool (!(ile m 65455)), .bool false), (.bool (ile 88 m), .bool true)]
set_option maxRecDepth 100000 in
theorem run12 (m s r l mo fi t ms u : Int) : finV (rn m s r l mo fi t ms u 0 (pins12)) = wantV (rn m s r l mo fi t ms u 0 (pins12)) (.int .i64 1) (pairs12 m s r l mo fi t ms u) [] := by kernel_rfl
set_option maxRecDepth 100000 in
theorem path12 : ∀ (m s r l mo fi t ms u : Int), InRange m s r l mo fi t ms u → (ile 88 m) = true → (!(ile m 65455)) = false → (ile 1 s) = true → (!(ile s 1048576)) = false → (ile 1 r) = true → (!(ile r 1048576)) = false → (ilt l 1) = false → (ilt fi l) = false → (ilt mo fi) = false → (ilt 1073741824 mo) = false → (ilt 1048576 mo) = false → (ile 1 t) = true → (!(ile t 30)) = false → (ile 1 ms) = true → (!(ile ms 1048576)) = false → (ile 1 u) = false → Goal m s r l mo fi t ms u := by
  intro m s r l mo fi t ms u rg f0 f1 f2 f3 f4 f5 f6 f7 f8 f9 f10 f11 f12 f13 f14 f15
  have _ := rg
  have f0 := ile_t.mp f0
  have f1 := ile_t.mp (not_f.mp f1)
  have f2 := ile_t.mp f2
  have f3 := ile_t.mp (not_f.mp f3)
  have f4 := ile_t.mp f4
  have f5 := ile_t.mp (not_f.mp f5)
  have f6 := ilt_f.mp f6
  have f7 := ilt_f.mp f7
  have f8 := ilt_f.mp f8
  have f9 := ilt_f.mp f9
  have f10 := ilt_f.mp f10
  have f11 := ile_t.mp f11
  have f12 := ile_t.mp (not_f.mp f12)
  have f13 := ile_t.mp f13
  have f14 := ile_t.mp (not_f.mp f14)
  have f15 := ile_f.mp f15
  exact goal (run12 m s r l mo fi t ms u) (.cons (congrArg Value.bool ((ile_f.mpr (by omega)))) (.cons (congrArg Value.bool ((not_f.mpr (ile_t.mpr (by omega))))) (.cons (congrArg Value.bool ((ile_t.mpr (by omega)))) (.cons (congrArg Value.bool ((not_f.mpr (ile_t.mpr (by omega))))) (.cons (congrArg Value.bool ((ile_t.mpr (by omega)))) (.cons (congrArg Value.bool ((ilt_f.mpr (by omega)))) (.cons (congrArg Value.bool ((ilt_f.mpr (by omega)))) (.cons (congrArg Value.bool ((ilt_f.mpr (by omega)))) (.cons (congrArg Value.bool ((ilt_f.mpr (by omega)))) (.cons (congrArg Value.bool ((ilt_f.mpr (by omega)))) (.cons (congrArg Value.bool ((not_f.mpr (ile_t.mpr (by omega))))) (.cons (congrArg Value.bool ((ile_t.mpr (by omega)))) (.cons (congrArg Value.bool ((not_f.mpr (ile_t.mpr (by omega))))) (.cons (congrArg Value.bool ((ile_t.mpr (by omega)))) (.cons (congrArg Value.bool ((not_f.mpr (ile_t.mpr (by omega))))) (.cons (congrArg Value.bool ((ile_t.mpr (by omega)))) .nil)))))))))))))))) (.nil) ((by rw [okCfg_f.mpr (by omega)]; rfl))

noncomputable def pins13 : List (Nat × Value) := [(2, .bool true), (0, .bool false), (3, .bool true), (0, .bool false), (3, .bool true), (0, .bool false), (1, .bool false), (1, .bool false), (1, .bool false), (2, .bool false), (0, .bool false), (2, .bool true), (0, .bool false), (0, .bool false)]
noncomputable def pairs13 (m s r l mo fi t ms : Int) : List (Value × Value) := [(.bool (ile 1 ms), .bool false), (.bool (!(ile t 30)), .bool false), (.bool (ile 1 t), .bool true), (.bool (ilt 1048576 mo), .bool false), (.bool (ilt 1073741824 mo), .bool false), (.bool (ilt mo fi), .bool false), (.bool (ilt fi l), .bool false), (.bool (ilt l 1), .bool false), (.bool (!(ile r 1048576)), .bool false), (.bool (ile 1 r), .bool true), (.bool (!(ile s 1048576)), .bool false), (.bool (ile 1 s), .bool true), (.bool (!(ile m 65455)), .bool false), (.bool (ile 88 m), .bool true)]
set_option maxRecDepth 100000 in
theorem run13 (m s r l mo fi t ms u : Int) : finV (rn m s r l mo fi t ms u 0 (pins13)) = wantV (rn m s r l mo fi t ms u 0 (pins13)) (.int .i64 1) (pairs13 m s r l mo fi t ms) [] := by kernel_rfl
set_option maxRecDepth 100000 in
theorem path13 : ∀ (m s r l mo fi t ms u : Int), InRange m s r l mo fi t ms u → (ile 88 m) = true → (!(ile m 65455)) = false → (ile 1 s) = true → (!(ile s 1048576)) = false → (ile 1 r) = true → (!(ile r 1048576)) = false → (ilt l 1) = false → (ilt fi l) = false → (ilt mo fi) = false → (ilt 1073741824 mo) = false → (ilt 1048576 mo) = false → (ile 1 t) = true → (!(ile t 30)) = false → (ile 1 ms) = false → Goal m s r l mo fi t ms u := by
  intro m s r l mo fi t ms u rg f0 f1 f2 f3 f4 f5 f6 f7 f8 f9 f10 f11 f12 f13
  have _ := rg
  have f0 := ile_t.mp f0
  have f1 := ile_t.mp (not_f.mp f1)
  have f2 := ile_t.mp f2
  have f3 := ile_t.mp (not_f.mp f3)
  have f4 := ile_t.mp f4
  have f5 := ile_t.mp (not_f.mp f5)
  have f6 := ilt_f.mp f6
  have f7 := ilt_f.mp f7
  have f8 := ilt_f.mp f8
  have f9 := ilt_f.mp f9
  have f10 := ilt_f.mp f10
  have f11 := ile_t.mp f11
  have f12 := ile_t.mp (not_f.mp f12)
  have f13 := ile_f.mp f13
  exact goal (run13 m s r l mo fi t ms u) (.cons (congrArg Value.bool ((ile_f.mpr (by omega)))) (.cons (congrArg Value.bool ((not_f.mpr (ile_t.mpr (by omega))))) (.cons (congrArg Value.bool ((ile_t.mpr (by omega)))) (.cons (congrArg Value.bool ((ilt_f.mpr (by omega)))) (.cons (congrArg Value.bool ((ilt_f.mpr (by omega)))) (.cons (congrArg Value.bool ((ilt_f.mpr (by omega)))) (.cons (congrArg Value.bool ((ilt_f.mpr (by omega)))) (.cons (congrArg Value.bool ((ilt_f.mpr (by omega)))) (.cons (congrArg Value.bool ((not_f.mpr (ile_t.mpr (by omega))))) (.cons (congrArg Value.bool ((ile_t.mpr (by omega)))) (.cons (congrArg Value.bool ((not_f.mpr (ile_t.mpr (by omega))))) (.cons (congrArg Value.bool ((ile_t.mpr (by omega)))) (.cons (congrArg Value.bool ((not_f.mpr (ile_t.mpr (by omega))))) (.cons (congrArg Value.bool ((ile_t.mpr (by omega)))) .nil)))))))))))))) (.nil) ((by rw [okCfg_f.mpr (by omega)]; rfl))

noncomputable def pins14 : List (Nat × Value) := [(2, .bool true), (0, .bool false), (3, .bool true), (0, .bool false), (3, .bool true), (0, .bool false), (1, .bool false), (1, .bool false), (1, .bool false), (2, .bool false), (0, .bool false), (0, .bool false)]
noncomputable def pairs14 (m s r l mo fi t : Int) : List (Value × Value) := [(.bool (ile 1 t), .bool false), (.bool (ilt 1048576 mo), .bool false), (.bool (ilt 1073741824 mo), .bool false), (.bool (ilt mo fi), .bool false), (.bool (ilt fi l), .bool false), (.bool (ilt l 1), .bool false), (.bool (!(ile r 1048576)), .bool false), (.bool (ile 1 r), .bool true), (.bool (!(ile s 1048576)), .bool false), (.bool (ile 1 s), .bool true), (.bool (!(ile m 65455)), .bool false), (.bool (ile 88 m), .bool true)]
set_option maxRecDepth 100000 in
theorem run14 (m s r l mo fi t ms u : Int) : finV (rn m s r l mo fi t ms u 0 (pins14)) = wantV (rn m s r l mo fi t ms u 0 (pins14)) (.int .i64 1) (pairs14 m s r l mo fi t) [] := by kernel_rfl
set_option maxRecDepth 100000 in
theorem path14 : ∀ (m s r l mo fi t ms u : Int), InRange m s r l mo fi t ms u → (ile 88 m) = true → (!(ile m 65455)) = false → (ile 1 s) = true → (!(ile s 1048576)) = false → (ile 1 r) = true → (!(ile r 1048576)) = false → (ilt l 1) = false → (ilt fi l) = false → (ilt mo fi) = false → (ilt 1073741824 mo) = false → (ilt 1048576 mo) = false → (ile 1 t) = false → Goal m s r l mo fi t ms u := by
  intro m s r l mo fi t ms u rg f0 f1 f2 f3 f4 f5 f6 f7 f8 f9 f10 f11
  have _ := rg
  have f0 := ile_t.mp f0
  have f1 := ile_t.mp (not_f.mp f1)
  have f2 := ile_t.mp f2
  have f3 := ile_t.mp (not_f.mp f3)
  have f4 := ile_t.mp f4
  have f5 := ile_t.mp (not_f.mp f5)
  have f6 := ilt_f.mp f6
  have f7 := ilt_f.mp f7
  have f8 := ilt_f.mp f8
  have f9 := ilt_f.mp f9
  have f10 := ilt_f.mp f10
  have f11 := ile_f.mp f11
  exact goal (run14 m s r l mo fi t ms u) (.cons (congrArg Value.bool ((ile_f.mpr (by omega)))) (.cons (congrArg Value.bool ((ilt_f.mpr (by omega)))) (.cons (congrArg Value.bool ((ilt_f.mpr (by omega)))) (.cons (congrArg Value.bool ((ilt_f.mpr (by omega)))) (.cons (congrArg Value.bool ((ilt_f.mpr (by omega)))) (.cons (congrArg Value.bool ((ilt_f.mpr (by omega)))) (.cons (congrArg Value.bool ((not_f.mpr (ile_t.mpr (by omega))))) (.cons (congrArg Value.bool ((ile_t.mpr (by omega)))) (.cons (congrArg Value.bool ((not_f.mpr (ile_t.mpr (by omega))))) (.cons (congrArg Value.bool ((ile_t.mpr (by omega)))) (.cons (congrArg Value.bool ((not_f.mpr (ile_t.mpr (by omega))))) (.cons (congrArg Value.bool ((ile_t.mpr (by omega)))) .nil)))))))))))) (.nil) ((by rw [okCfg_f.mpr (by omega)]; rfl))

noncomputable def pins15 : List (Nat × Value) := [(2, .bool true), (0, .bool false), (3, .bool true), (0, .bool false), (0, .bool false)]
noncomputable def pairs15 (m s r : Int) : List (Value × Value) := [(.bool (ile 1 r), .bool false), (.bool (!(ile s 1048576)), .bool false), (.bool (ile 1 s), .bool true), (.bool (!(ile m 65455)), .bool false), (.bool (ile 88 m), .bool true)]
set_option maxRecDepth 100000 in
theorem run15 (m s r l mo fi t ms u : Int) : finV (rn m s r l mo fi t ms u 0 (pins15)) = wantV (rn m s r l mo fi t ms u 0 (pins15)) (.int .i64 1) (pairs15 m s r) [] := by kernel_rfl
set_option maxRecDepth 100000 in
theorem path15 : ∀ (m s r l mo fi t ms u : Int), InRange m s r l mo fi t ms u → (ile 88 m) = true → (!(ile m 65455)) = false → (ile 1 s) = true → (!(ile s 1048576)) = false → (ile 1 r) = false → Goal m s r l mo fi t ms u := by
  intro m s r l mo fi t ms u rg f0 f1 f2 f3 f4
  have _ := rg
  have f0 := ile_t.mp f0
  have f1 := ile_t.mp (not_f.mp f1)
  have f2 := ile_t.mp f2
  have f3 := ile_t.mp (not_f.mp f3)
  have f4 := ile_f.mp f4
  exact goal (run15 m s r l mo fi t ms u) (.cons (congrArg Value.bool ((ile_f.mpr (by omega)))) (.cons (congrArg Value.bool ((not_f.mpr (ile_t.mpr (by omega))))) (.cons (congrArg Value.bool ((ile_t.mpr (by omega)))) (.cons (congrArg Value.bool ((not_f.mpr (ile_t.mpr (by omega))))) (.cons (congrArg Value.bool ((ile_t.mpr (by omega)))) .nil))))) (.nil) ((by rw [okCfg_f.mpr (by omega)]; rfl))

noncomputable def pins16 : List (Nat × Value) := [(2, .bool true), (0, .bool false), (0, .bool false)]
noncomputable def pairs16 (m s : Int) : List (Value × Value) := [(.bool (ile 1 s), .bool false), (.bool (!(ile m 65455)), .bool false), (.bool (ile 88 m), .bool true)]
set_option maxRecDepth 100000 in
theorem run16 (m s r l mo fi t ms u : Int) : finV (rn m s r l mo fi t ms u 0 (pins16)) = wantV (rn m s r l mo fi t ms u 0 (pins16)) (.int .i64 1) (pairs16 m s) [] := by kernel_rfl
set_option maxRecDepth 100000 in
theorem path16 : ∀ (m s r l mo fi t ms u : Int), InRange m s r l mo fi t ms u → (ile 88 m) = true → (!(ile m 65455)) = false → (ile 1 s) = false → Goal m s r l mo fi t ms u := by
  intro m s r l mo fi t ms u rg f0 f1 f2
  have _ := rg
  have f0 := ile_t.mp f0
  have f1 := ile_t.mp (not_f.mp f1)
  have f2 := ile_f.mp f2
  exact goal (run16 m s r l mo fi t ms u) (.cons (congrArg Value.bool ((ile_f.mpr (by omega)))) (.cons (congrArg Value.bool ((not_f.mpr (ile_t.mpr (by omega))))) (.cons (congrArg Value.bool ((ile_t.mpr (by omega)))) .nil))) (.nil) ((by rw [okCfg_f.mpr (by omega)]; rfl))

noncomputable def pins17 : List (Nat × Value) := [(0, .bool false)]
noncomputable def pairs17 (m : Int) : List (Value × Value) := [(.bool (ile 88 m), .bool false)]
set_option maxRecDepth 100000 in
theorem run17 (m s r l mo fi t ms u : Int) : finV (rn m s r l mo fi t ms u 0 (pins17)) = wantV (rn m s r l mo fi t ms u 0 (pins17)) (.int .i64 1) (pairs17 m) [] := by kernel_rfl
set_option maxRecDepth 100000 in
theorem path17 : ∀ (m s r l mo fi t ms u : Int), InRange m s r l mo fi t ms u → (ile 88 m) = false → Goal m s r l mo fi t ms u := by
  intro m s r l mo fi t ms u rg f0
  have _ := rg
  have f0 := ile_f.mp f0
  exact goal (run17 m s r l mo fi t ms u) (.cons (congrArg Value.bool ((ile_f.mpr (by omega)))) .nil) (.nil) ((by rw [okCfg_f.mpr (by omega)]; rfl))

end Go.Proofs.YtpncmonojhlheaaGreat.LgCheckT
namespace Go.Proofs.YtpncmonojhlheaaGreat.LgCheckT
open Go.Ev

set_option maxRecDepth 100000 in
theorem all : ∀ (m s r l mo fi t ms u : Int), InRange m s r l mo fi t ms u → Goal m s r l mo fi t ms u := by
  intro m s r l mo fi t ms u rg
  have _ := id rg
  rcases Bool.eq_false_or_eq_true (ile 88 m) with f0 | f0
  · rcases Bool.eq_false_or_eq_true (!(ile m 65455)) with f1 | f1
    · exact path0 m s r l mo fi t ms u rg f0 f1
    · rcases Bool.eq_false_or_eq_true (ile 1 s) with f2 | f2
      · rcases Bool.eq_false_or_eq_true (!(ile s 1048576)) with f3 | f3
        · exact path1 m s r l mo fi t ms u rg f0 f1 f2 f3
        · rcases Bool.eq_false_or_eq_true (ile 1 r) with f4 | f4
          · rcases Bool.eq_false_or_eq_true (!(ile r 1048576)) with f5 | f5
            · exact path2 m s r l mo fi t ms u rg f0 f1 f2 f3 f4 f5
            · rcases Bool.eq_false_or_eq_true (ilt l 1) with f6 | f6
              · exact path3 m s r l mo fi t ms u rg f0 f1 f2 f3 f4 f5 f6
              · rcases Bool.eq_false_or_eq_true (ilt fi l) with f7 | f7
                · exact path4 m s r l mo fi t ms u rg f0 f1 f2 f3 f4 f5 f6 f7
                · rcases Bool.eq_false_or_eq_true (ilt mo fi) with f8 | f8
                  · exact path5 m s r l mo fi t ms u rg f0 f1 f2 f3 f4 f5 f6 f7 f8
                  · rcases Bool.eq_false_or_eq_true (ilt 1073741824 mo) with f9 | f9
                    · exact path6 m s r l mo fi t ms u rg f0 f1 f2 f3 f4 f5 f6 f7 f8 f9
                    · rcases Bool.eq_false_or_eq_true (ilt 1048576 mo) with f10 | f10
                      · exact path7 m s r l mo fi t ms u rg f0 f1 f2 f3 f4 f5 f6 f7 f8 f9 f10
                      · rcases Bool.eq_false_or_eq_true (ile 1 t) with f11 | f11
                        · rcases Bool.eq_false_or_eq_true (!(ile t 30)) with f12 | f12
                          · exact path8 m s r l mo fi t ms u rg f0 f1 f2 f3 f4 f5 f6 f7 f8 f9 f10 f11 f12
                          · rcases Bool.eq_false_or_eq_true (ile 1 ms) with f13 | f13
                            · rcases Bool.eq_false_or_eq_true (!(ile ms 1048576)) with f14 | f14
                              · exact path9 m s r l mo fi t ms u rg f0 f1 f2 f3 f4 f5 f6 f7 f8 f9 f10 f11 f12 f13 f14
                              · rcases Bool.eq_false_or_eq_true (ile 1 u) with f15 | f15
                                · rcases Bool.eq_false_or_eq_true (!(ile u 1048576)) with f16 | f16
                                  · exact path10 m s r l mo fi t ms u rg f0 f1 f2 f3 f4 f5 f6 f7 f8 f9 f10 f11 f12 f13 f14 f15 f16
                                  · exact path11 m s r l mo fi t ms u rg f0 f1 f2 f3 f4 f5 f6 f7 f8 f9 f10 f11 f12 f13 f14 f15 f16
                                · exact path12 m s r l mo fi t ms u rg f0 f1 f2 f3 f4 f5 f6 f7 f8 f9 f10 f11 f12 f13 f14 f15
                            · exact path13 m s r l mo fi t ms u rg f0 f1 f2 f3 f4 f5 f6 f7 f8 f9 f10 f11 f12 f13
                        · exact path14 m s r l mo fi t ms u rg f0 f1 f2 f3 f4 f5 f6 f7 f8 f9 f10 f11
          · exact path15 m s r l mo fi t ms u rg f0 f1 f2 f3 f4
      · exact path16 m s r l mo fi t ms u rg f0 f1 f2
  · exact path17 m s r l mo fi t ms u rg f0

end Go.Proofs.YtpncmonojhlheaaGreat.LgCheckT
