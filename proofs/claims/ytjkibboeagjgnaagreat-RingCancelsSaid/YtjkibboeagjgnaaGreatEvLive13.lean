/- The page's example of the ring comes to true. No conditions. -/
import Derived.Test.YtjkibboeagjgnaaGreatEvTickS
namespace Go.Proofs.YtjkibboeagjgnaaGreat
open Go.Ev

set_option maxRecDepth 100000 in
theorem ev_live13 : fin (irun Tryz.prog 584 con1 1000 13 [] ⟨.nil, 0⟩) = want (irun Tryz.prog 584 con1 1000 13 [] ⟨.nil, 0⟩) := by kernel_rfl

theorem yes13 : conYes.Holds Tryz.prog 13 := yes_holds ev_zeros ev_codes ev_mixed cons1 ev_live13
noncomputable def con2 : Nat → Option Con := conAdd con1 13 conYes
theorem cons2 : (envOf Tryz.prog 584 con2).Cons Tryz.prog := cons_add cons1 yes13

end Go.Proofs.YtjkibboeagjgnaaGreat
