/-
  No cell of these rows narrows 'for every input' (looked for: loops, veiled, ifaces, maps, wideKeys, modest, calm, conditions, laid).
  DERIVED. THE GIVEN ROWS OF THIS SEAT. 3 by the template 'for every input the law returns true; each argument reads behind the call as it read before'; 0 by the template 'total and deterministic' (their statements: YtjkibboeagjgnaaGreatTotals.lean).
  GIVEN WITH THE SEED: the statements are not yours to turn. If you find one false, say at which input.
  Laid BY PROGRAM, IN A SANDBOX (cutbox-rows.mjs): the forced cells as the released guide's own fill.sh prints them over the translation 97f1877add398e80… (all of the seat's roots in one cut). By AI agents, Wed Nov 11 2026. No macro, syntax, notation, axiom, sorry.
-/
import Derived.Test.YtjkibboeagjgnaaGreatChecked
import GoSem.Claim
import GoSem.ClaimJoined
import GoSem.ClaimMapViews
import Derived.JoinedTies
import Derived.KernelRfl
namespace Go.Proofs.YtjkibboeagjgnaaGreat
/- THE CELL 'sum', in the pinned program and in every row, IS THE sha256 OF THE DUMP (.gsa) THAT YtjkibboeagjgnaaGreatProg.lean LOADS. Nothing in Lean hashes anything: it is a label: what it is worth is what the hold of that sum in a sandbox is worth. -/
noncomputable def Tryz.pinned : Pinned := { name := "ytjkibboeagjgnaagreat", sum := "97f1877add398e807a00caf2153479ee483e6c76c7031ee65144bc90512c4542", checked := Tryz.checked }
namespace Rows
def none {H : Type} : Left H := { results := [], args := [] }

/-- 'towropelaw29.RingCancels': WHATEVER THE INPUT: true; the input reads as it did. -/
def ringCancelsSpec : ChangeSpec := { name := "ringCancels", fn := fun _ => fun
  | [d1, d2, d3, d4, d5] => { results := [.lit (.bool true)], args := [d1, d2, d3, d4, d5] }
  | _ => none }
def ringCancelsRow : OpenClaim := { program := "ytjkibboeagjgnaagreat", sum := "97f1877add398e807a00caf2153479ee483e6c76c7031ee65144bc90512c4542", func := "towrope/towropelaw29.RingCancels", spec := "ringCancels", inPlace := ["slices.overlaps[towrope/route.way]"], unfollowed := true, recurses := true, plainKeys := false, apart := false }
def RingCancelsSaid : Prop := ringCancelsRow.holds Tryz.pinned (OpenSpec.ofChange ringCancelsSpec)

/-- ITS FALSE NEIGHBOUR: 'it returns false'. Refute it at one input. -/
def ringCancelsWrong : ChangeSpec := { name := "ringCancels", fn := fun _ => fun
  | [d1, d2, d3, d4, d5] => { results := [.lit (.bool false)], args := [d1, d2, d3, d4, d5] }
  | _ => none }
def RingCancelsWrongFalsely : Prop := ringCancelsRow.holds Tryz.pinned (OpenSpec.ofChange ringCancelsWrong)

/-- 'towropelaw29.RingNils': WHATEVER THE INPUT: true; the input reads as it did. -/
def ringNilsSpec : ChangeSpec := { name := "ringNils", fn := fun _ => fun
  | [d1, d2] => { results := [.lit (.bool true)], args := [d1, d2] }
  | _ => none }
def ringNilsRow : OpenClaim := { program := "ytjkibboeagjgnaagreat", sum := "97f1877add398e807a00caf2153479ee483e6c76c7031ee65144bc90512c4542", func := "towrope/towropelaw29.RingNils", spec := "ringNils", inPlace := ["slices.overlaps[towrope/route.way]"], unfollowed := true, recurses := true, plainKeys := false, apart := false }
def RingNilsSaid : Prop := ringNilsRow.holds Tryz.pinned (OpenSpec.ofChange ringNilsSpec)

/-- ITS FALSE NEIGHBOUR: 'it returns false'. Refute it at one input. -/
def ringNilsWrong : ChangeSpec := { name := "ringNils", fn := fun _ => fun
  | [d1, d2] => { results := [.lit (.bool false)], args := [d1, d2] }
  | _ => none }
def RingNilsWrongFalsely : Prop := ringNilsRow.holds Tryz.pinned (OpenSpec.ofChange ringNilsWrong)

/-- 'towropelaw25.SockNils': WHATEVER THE INPUT: true; the input reads as it did. -/
def sockNilsSpec : ChangeSpec := { name := "sockNils", fn := fun _ => fun
  | [d] => { results := [.lit (.bool true)], args := [d] }
  | _ => none }
def sockNilsRow : OpenClaim := { program := "ytjkibboeagjgnaagreat", sum := "97f1877add398e807a00caf2153479ee483e6c76c7031ee65144bc90512c4542", func := "towrope/towropelaw25.SockNils", spec := "sockNils", inPlace := ["slices.overlaps[towrope/route.way]"], unfollowed := true, recurses := true, plainKeys := false, apart := false }
def SockNilsSaid : Prop := sockNilsRow.holds Tryz.pinned (OpenSpec.ofChange sockNilsSpec)

/-- ITS FALSE NEIGHBOUR: 'it returns false'. Refute it at one input. -/
def sockNilsWrong : ChangeSpec := { name := "sockNils", fn := fun _ => fun
  | [d] => { results := [.lit (.bool false)], args := [d] }
  | _ => none }
def SockNilsWrongFalsely : Prop := sockNilsRow.holds Tryz.pinned (OpenSpec.ofChange sockNilsWrong)

/- THE SECOND FORM. 'bulk': how many values and letters a reading holds, each counted each time it is reached (what is shared counts as often as it is met; a slice's spare places count too). A statement '..UptoSaid' is the law's where the arguments, and the package variables that the reading takes, are together of bulk at most 1048576: NARROWER than '..Said'. Prove '..Said' where nothing that the law and all that it calls make is longer than what came in: it says more and counts as full. Else prove '..UptoSaid'. A law counts once. -/
mutual
def uptoBulk {H : Type} : DataW H → Nat
  | .lit (.string bytes) => bytes.length + 1
  | .lit _ => 1
  | .nil => 1
  | .ptr d => uptoBulk d + 1
  | .slice elems spare => uptoBulkAll elems + uptoBulkAll spare + 1
  | .agg parts => uptoBulkAll parts + 1
  | .iface _ d => uptoBulk d + 1
  | .map entries => uptoBulkEntries entries + 1
  | .held _ => 1
def uptoBulkAll {H : Type} : List (DataW H) → Nat
  | [] => 0
  | d :: r => uptoBulk d + uptoBulkAll r
def uptoBulkEntries {H : Type} : List (Lit × DataW H) → Nat
  | [] => 0
  | x :: r => uptoBulkEntry x + uptoBulkEntries r
def uptoBulkEntry {H : Type} : Lit × DataW H → Nat
  | (.string bytes, d) => bytes.length + uptoBulk d + 1
  | (_, d) => uptoBulk d + 1
 end
def uptoSmall : (H : Type) → List (DataW H) → Bool := fun _ ds => decide (uptoBulkAll ds ≤ 1048576)
def OpenSpec.upto (s : _root_.Go.ChangeSpec) : _root_.Go.OpenSpec := { _root_.Go.OpenSpec.ofChange s with cond := some uptoSmall }

/-- 'towropelaw29.RingCancels', WHERE WHAT IT READS IS OF BULK AT MOST 1048576: true; the input reads as it did. -/
def ringCancelsUptoRow : OpenClaim := { program := "ytjkibboeagjgnaagreat", sum := "97f1877add398e807a00caf2153479ee483e6c76c7031ee65144bc90512c4542", func := "towrope/towropelaw29.RingCancels", spec := "ringCancels", inPlace := ["slices.overlaps[towrope/route.way]"], unfollowed := true, recurses := true, plainKeys := false, apart := false, narrowed := true }
def RingCancelsUptoSaid : Prop := ringCancelsUptoRow.holds Tryz.pinned (OpenSpec.upto ringCancelsSpec)

/-- 'towropelaw29.RingNils', WHERE WHAT IT READS IS OF BULK AT MOST 1048576: true; the input reads as it did. -/
def ringNilsUptoRow : OpenClaim := { program := "ytjkibboeagjgnaagreat", sum := "97f1877add398e807a00caf2153479ee483e6c76c7031ee65144bc90512c4542", func := "towrope/towropelaw29.RingNils", spec := "ringNils", inPlace := ["slices.overlaps[towrope/route.way]"], unfollowed := true, recurses := true, plainKeys := false, apart := false, narrowed := true }
def RingNilsUptoSaid : Prop := ringNilsUptoRow.holds Tryz.pinned (OpenSpec.upto ringNilsSpec)

/-- 'towropelaw25.SockNils', WHERE WHAT IT READS IS OF BULK AT MOST 1048576: true; the input reads as it did. -/
def sockNilsUptoRow : OpenClaim := { program := "ytjkibboeagjgnaagreat", sum := "97f1877add398e807a00caf2153479ee483e6c76c7031ee65144bc90512c4542", func := "towrope/towropelaw25.SockNils", spec := "sockNils", inPlace := ["slices.overlaps[towrope/route.way]"], unfollowed := true, recurses := true, plainKeys := false, apart := false, narrowed := true }
def SockNilsUptoSaid : Prop := sockNilsUptoRow.holds Tryz.pinned (OpenSpec.upto sockNilsSpec)

end Rows
end Go.Proofs.YtjkibboeagjgnaaGreat
