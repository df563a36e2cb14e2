/- The law RingCancels: what is to be shown of a run. No conditions. -/
import Derived.Test.YtjkibboeagjgnaaGreatEvLive13
import Derived.Test.YtjkibboeagjgnaaGreatEvSym
namespace Go.Proofs.YtjkibboeagjgnaaGreat.ringCancels
open Go.Ev

noncomputable def args (user target flags aux by_ : Int) : List Value := [.int .u64 user, .int .u64 target, .int .u8 flags, .int .u16 aux, .int .u64 by_]
def Goal (user target flags aux by_ : Int) : Prop := ∃ hx, (cfun (envOf Tryz.prog 584 con2) (cinv (envOf Tryz.prog 584 con2) 1000) 1000 3).run (args user target flags aux by_) ⟨.nil, 1000⟩ = some (.bool true, hx)
noncomputable def rn (user target flags aux by_ : Int) (c : Nat) (pins : List (Nat × Value)) : Option (Value × AH × Ob) := irunP Tryz.prog 584 con2 1000 3 (args user target flags aux by_) ⟨.nil, 1000⟩ c pins
def InRange (user target flags aux by_ : Int) : Prop := 0 ≤ user ∧ user ≤ 18446744073709551615 ∧ 0 ≤ target ∧ target ≤ 18446744073709551615 ∧ 0 ≤ flags ∧ flags ≤ 255 ∧ 0 ≤ aux ∧ aux ≤ 65535 ∧ 0 ≤ by_ ∧ by_ ≤ 18446744073709551615
theorem goal {user target flags aux by_ : Int} {c : Nat} {pins : List (Nat × Value)} {l : List (Value × Value)} (e : fin (rn user target flags aux by_ c pins) = wantP (rn user target flags aux by_ c pins) l (trues (rn user target flags aux by_ c pins))) (hl : Same l) : Goal user target flags aux by_ := fin_runP e (same_all hl)

end Go.Proofs.YtjkibboeagjgnaaGreat.ringCancels
