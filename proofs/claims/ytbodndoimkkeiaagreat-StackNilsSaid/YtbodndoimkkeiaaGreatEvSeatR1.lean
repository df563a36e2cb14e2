/- A part of a big-step evaluator of the model's language, with the proof that what it comes to, the model comes to for every tape. No conditions. -/
import Derived.Test.YtbodndoimkkeiaaGreatEvUse
import Derived.Test.YtbodndoimkkeiaaGreatRows
namespace Go.Proofs.YtbodndoimkkeiaaGreat
open Go.Ev

theorem ev_zeros : ((List.range 364).all (zok Tryz.prog)) = true := by kernel_rfl
theorem ev_codes : (Tryz.prog.funcs.toList.all okFn) = true := by kernel_rfl
theorem ev_mixed : Tryz.prog.follows .mixedOrders = true := Tryz.checked.mixed
theorem ev_laid : laidOutB Tryz.prog = true := by kernel_rfl

set_option maxRecDepth 100000 in
theorem ev_live24 : fin (irun Tryz.prog 364 noCon 1000 12 [] ⟨.nil, 0⟩) = want (irun Tryz.prog 364 noCon 1000 12 [] ⟨.nil, 0⟩) := by kernel_rfl

theorem ev_con24 : (envOf Tryz.prog 364 (conOne 12)).Cons Tryz.prog := con_one ev_zeros ev_codes ev_mixed ev_live24

end Go.Proofs.YtbodndoimkkeiaaGreat
