/- The ring's tickets: a contract that holds of the given program. No conditions. -/
import Derived.Test.YtjkibboeagjgnaaGreatEvTick
import Derived.Test.YtjkibboeagjgnaaGreatEvTickG
import Derived.Test.YtjkibboeagjgnaaGreatEvSeatR4
namespace Go.Proofs.YtjkibboeagjgnaaGreat
open Go.Ev

theorem und3 : Tryz.prog.underlying 3 = some (.int .i64) := by kernel_rfl
theorem tick54 : (conTick 5).Holds Tryz.prog 54 :=
  tick_holds ⟨Tryz.f54, Tryz.func54, by kernel_rfl, by kernel_rfl⟩ und3 (fun b nn bc oc D0 R w h1 h2 h3 h4 => Tryz.tick b nn bc oc D0 R w h1 h2 h3 h4)

noncomputable def con1 : Nat → Option Con := conAdd noCon 54 (conTick 5)
theorem cons1 : (envOf Tryz.prog 584 con1).Cons Tryz.prog := cons_add no_cons tick54

end Go.Proofs.YtjkibboeagjgnaaGreat
