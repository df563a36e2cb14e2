/- The law SockNils of the given program returns true for every input, and turns nothing that was there. No conditions. -/
import Derived.Test.YtjkibboeagjgnaaGreatEvSockNils
import Derived.Test.YtjkibboeagjgnaaGreatEvJoin
namespace Go.Proofs.YtjkibboeagjgnaaGreat.sockNils
open Go.ChangeShapes Go.WideShapes Go.ChangeAt Go.RowKit Go.Ev

set_option maxRecDepth 100000 in
theorem lifted (os : Os) (started : os.Started) (H : Type) (enc : TypeId × Value → H) :
    ReturnsInHanded {} Tryz.checked os 5 .any (Rows.sockNilsSpec.pre6 enc Tryz.prog Tryz.f5 Rows.sockNilsRow.domain false) (Rows.sockNilsSpec.post enc Tryz.prog Tryz.f5 false true false false) := by
  refine returnsInHanded_of_change (C := Tryz.checked) j_own started (by kernel_rfl) Tryz.func5
    (ChangeSpec.witness6 (enc := enc) (C := Tryz.checked) false ⟨#[], #[.agg #[.int .i64 0, .int .i64 0, .int .i64 0, .int .i64 0, .int .u32 0, .int .u16 0]], []⟩ 8 (by kernel_rfl) (by kernel_rfl) (by kernel_rfl) (by kernel_rfl)) ?_
  intro W base args ds gs before hval hW _ _
  exact contract H enc W base args ds gs before hval hW

theorem j_inPlace : (Rows.sockNilsRow.inPlace == Tryz.prog.inPlace 5) = true := by kernel_rfl
theorem j_unf : (Rows.sockNilsRow.unfollowed == Tryz.prog.unfollowed 5) = true := by kernel_rfl
theorem j_rec : (Rows.sockNilsRow.recurses == Tryz.prog.recurses 5) = true := by kernel_rfl
theorem j_named : (Rows.sockNilsRow.named == Tryz.prog.varsNamed 5) = true := by kernel_rfl
theorem j_tie : namedTie Tryz.prog Rows.sockNilsRow.named Rows.sockNilsSpec.vars = true := by kernel_rfl
theorem j_pars : (Tryz.f5.params.all (Tryz.prog.readableRec ·)) = true := by kernel_rfl
set_option maxRecDepth 100000 in
theorem closed : joinedFacts Tryz.prog 5 Tryz.f5 Rows.sockNilsSpec Rows.sockNilsRow = true := by
  unfold joinedFacts
  exact (and2 (and2 (and2 (and2 (and2 (and2 (and2 (and2 (and2 (and2 (and2 (and2 (and2 (and2 (and2 (and2 (and2 (and2 (and2 (and2 (and2 (and2 (and2 (and2 (and2 (and2 (and2 (and2 (and2 (and2 (and2 (by kernel_rfl) (ev_laid)) (j_maps)) (j_pars)) (j_tie)) (by kernel_rfl)) (j_stops)) (by kernel_rfl)) (j_knobs)) (j_inPlace)) (j_unf)) (j_rec)) (j_named)) (by kernel_rfl)) (by kernel_rfl)) (by kernel_rfl)) (by kernel_rfl)) (by kernel_rfl)) (by kernel_rfl)) (by kernel_rfl)) (by kernel_rfl)) (by kernel_rfl)) (j_plain)) (by kernel_rfl)) (j_heard)) (j_may)) (by kernel_rfl)) (by kernel_rfl)) (by kernel_rfl)) (by kernel_rfl)) (by kernel_rfl)) (by kernel_rfl))

theorem j_func : Tryz.prog.funcNamed Rows.sockNilsRow.func = some 5 := by kernel_rfl
theorem j_inst : Tryz.f5.isInstance Tryz.prog Rows.sockNilsRow.origin Rows.sockNilsRow.targs := of_decide_eq_true (by kernel_rfl)
theorem j_wrap : Tryz.f5.isWrapper Tryz.prog Rows.sockNilsRow.wrapper Rows.sockNilsRow.mainSum := by
  unfold Func.isWrapper; first | (rw [if_pos (by decide +kernel)]; kernel_rfl) | (rw [if_neg (by decide +kernel)]; exact ⟨rfl, rfl⟩)

theorem proved : Rows.SockNilsSaid :=
  OpenClaim.holds_of_wide 5 Tryz.f5 rfl rfl rfl rfl rfl rfl rfl ⟨rfl, rfl, rfl, rfl, rfl⟩ rfl rfl rfl rfl rfl j_func Tryz.func5 closed j_inst j_wrap
    (fun os started H enc _ => lifted os started H enc)

#print axioms proved

end Go.Proofs.YtjkibboeagjgnaaGreat.sockNils
