/- The law TcbLinger of the given program returns true for every input, and turns nothing that was there. No conditions. -/
import Derived.Test.YtpncmonojhlheaaGreatEvLgWalk
import Derived.Test.YtpncmonojhlheaaGreatEvLgSeat
namespace Go.Proofs.YtpncmonojhlheaaGreat.tcbLinger
open Go.ChangeShapes Go.WideShapes Go.ChangeAt Go.RowKit Go.Ev

set_option maxRecDepth 100000 in
theorem lifted (os : Os) (started : os.Started) (H : Type) (enc : TypeId × Value → H) :
    ReturnsInHanded {} Tryz.checked os 3 .any (Rows.tcbLingerSpec.pre6 enc Tryz.prog Tryz.f3 Rows.tcbLingerRow.domain false) (Rows.tcbLingerSpec.post enc Tryz.prog Tryz.f3 false true false false) := by
  refine returnsInHanded_of_change (C := Tryz.checked) j_own started (by kernel_rfl) Tryz.func3
    (ChangeSpec.witness6 (enc := enc) (C := Tryz.checked) false ⟨#[], #[.agg #[.int .i64 0, .int .i64 0, .int .i64 0, .int .i64 0, .int .i64 0, .int .i64 0, .int .i64 0, .int .i64 0, .int .i64 0, .int .i64 0, .int .i64 0, .int .i64 0, .int .i64 0, .int .i64 0, .int .i64 0, .int .i64 0, .int .i64 0, .int .i64 0, .int .u32 0, .int .u32 0]], []⟩ 8 (by kernel_rfl) (by kernel_rfl) (by kernel_rfl) (by kernel_rfl)) ?_
  intro W base args ds gs before hval hW _ _
  exact contract H enc W base args ds gs before hval hW

theorem j_inPlace : (Rows.tcbLingerRow.inPlace == Tryz.prog.inPlace 3) = true := by kernel_rfl
theorem j_unf : (Rows.tcbLingerRow.unfollowed == Tryz.prog.unfollowed 3) = true := by kernel_rfl
theorem j_rec : (Rows.tcbLingerRow.recurses == Tryz.prog.recurses 3) = true := by kernel_rfl
theorem j_named : (Rows.tcbLingerRow.named == Tryz.prog.varsNamed 3) = true := by kernel_rfl
theorem j_tie : namedTie Tryz.prog Rows.tcbLingerRow.named Rows.tcbLingerSpec.vars = true := by kernel_rfl
theorem j_pars : (Tryz.f3.params.all (Tryz.prog.readableRec ·)) = true := by kernel_rfl
set_option maxRecDepth 100000 in
theorem closed : joinedFacts Tryz.prog 3 Tryz.f3 Rows.tcbLingerSpec Rows.tcbLingerRow = true := by
  unfold joinedFacts
  exact (and2 (and2 (and2 (and2 (and2 (and2 (and2 (and2 (and2 (and2 (and2 (and2 (and2 (and2 (and2 (and2 (and2 (and2 (and2 (and2 (and2 (and2 (and2 (and2 (and2 (and2 (and2 (and2 (and2 (and2 (and2 (by kernel_rfl) (ev_laid)) (j_maps)) (j_pars)) (j_tie)) (by kernel_rfl)) (j_stops)) (by kernel_rfl)) (j_knobs)) (j_inPlace)) (j_unf)) (j_rec)) (j_named)) (by kernel_rfl)) (by kernel_rfl)) (by kernel_rfl)) (by kernel_rfl)) (by kernel_rfl)) (by kernel_rfl)) (by kernel_rfl)) (by kernel_rfl)) (by kernel_rfl)) (j_plain)) (by kernel_rfl)) (j_heard)) (j_may)) (by kernel_rfl)) (by kernel_rfl)) (by kernel_rfl)) (by kernel_rfl)) (by kernel_rfl)) (by kernel_rfl))

theorem j_func : Tryz.prog.funcNamed Rows.tcbLingerRow.func = some 3 := by kernel_rfl
theorem j_inst : Tryz.f3.isInstance Tryz.prog Rows.tcbLingerRow.origin Rows.tcbLingerRow.targs := of_decide_eq_true (by kernel_rfl)
theorem j_wrap : Tryz.f3.isWrapper Tryz.prog Rows.tcbLingerRow.wrapper Rows.tcbLingerRow.mainSum := by
  unfold Func.isWrapper; first | (rw [if_pos (by decide +kernel)]; kernel_rfl) | (rw [if_neg (by decide +kernel)]; exact ⟨rfl, rfl⟩)

theorem proved : Rows.TcbLingerSaid :=
  OpenClaim.holds_of_wide 3 Tryz.f3 rfl rfl rfl rfl rfl rfl rfl ⟨rfl, rfl, rfl, rfl, rfl⟩ rfl rfl rfl rfl rfl j_func Tryz.func3 closed j_inst j_wrap
    (fun os started H enc _ => lifted os started H enc)

#print axioms proved

end Go.Proofs.YtpncmonojhlheaaGreat.tcbLinger
