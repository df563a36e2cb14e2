/- A part of a big-step evaluator of the model's language, with the proof that what it comes to, the model comes to for every tape. No conditions. -/
import Derived.Test.YtjkibboeagjgnaaGreatEvArg
import Derived.Test.YtjkibboeagjgnaaGreatEvGrow
import Derived.Test.YtjkibboeagjgnaaGreatRows
namespace Go.Proofs.YtjkibboeagjgnaaGreat
open Go.Ev

theorem ev_zeros : ((List.range 584).all (zok Tryz.prog)) = true := by kernel_rfl
theorem ev_codes : (Tryz.prog.funcs.toList.all okFn) = true := by kernel_rfl
theorem ev_mixed : Tryz.prog.follows .mixedOrders = true := Tryz.checked.mixed
theorem ev_laid : laidOutB Tryz.prog = true := by kernel_rfl

end Go.Proofs.YtjkibboeagjgnaaGreat
