/- A part of a big-step evaluator of the model's language, with the proof that what it comes to, the model comes to for every tape. No conditions. -/
import Derived.Test.YtjkibboeagjgnaaGreatEvSeatR4
namespace Go.Proofs.YtjkibboeagjgnaaGreat
open Go.Ev

set_option maxRecDepth 100000 in
theorem ev_live41 : fin (irun Tryz.prog 584 noCon 1000 41 [] ⟨.nil, 0⟩) = want (irun Tryz.prog 584 noCon 1000 41 [] ⟨.nil, 0⟩) := by kernel_rfl

theorem yes41 : conYes.Holds Tryz.prog 41 := yes_holds ev_zeros ev_codes ev_mixed no_cons ev_live41

end Go.Proofs.YtjkibboeagjgnaaGreat
