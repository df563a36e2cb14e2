/- Closed facts on the given program: no conditions. -/
import Derived.Test.YtpncmonojhlheaaGreatEvArg
import Derived.Test.YtpncmonojhlheaaGreatEvLingG
import Derived.Test.YtpncmonojhlheaaGreatRows
import Derived.JoinedOf
namespace Go.Proofs.YtpncmonojhlheaaGreat
open Go.ChangeShapes Go.WideShapes Go.ChangeAt Go.RowKit Go.Ev

theorem ev_zeros : ((List.range 185).all (zok Tryz.prog)) = true := by kernel_rfl
theorem ev_codes : (Tryz.prog.funcs.toList.all okFn) = true := by kernel_rfl
theorem ev_mixed : Tryz.prog.follows .mixedOrders = true := Tryz.checked.mixed
theorem ev_laid : laidOutB Tryz.prog = true := by kernel_rfl
theorem and2 {a b : Bool} (h : a = true) (k : b = true) : (a && b) = true := by rw [h, k]; rfl
theorem j_maps : mapsRowed Tryz.prog = true := by kernel_rfl
theorem j_stops : (Tryz.prog.stops == []) = true := by kernel_rfl
theorem j_knobs : (Tryz.prog.stopKnobs == []) = true := by kernel_rfl
theorem j_plain : (true == Tryz.prog.plainKeys) = true := by kernel_rfl
theorem j_heard : Tryz.prog.stopsHeard = true := by kernel_rfl
theorem j_may : Tryz.prog.mayEnter = true := by kernel_rfl
theorem j_own : ownKnob Tryz.prog.godebug = none := by kernel_rfl
theorem und4 : Tryz.prog.underlying 4 = some .bool := by kernel_rfl

end Go.Proofs.YtpncmonojhlheaaGreat
