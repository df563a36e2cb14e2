/- A call of the law RingCancels returns true, whatever its input, and turns nothing that was there. No conditions. -/
import Derived.Test.YtjkibboeagjgnaaGreatEvRingCancelsAll
import Derived.Test.YtjkibboeagjgnaaGreatEvJoin
import Derived.Test.YtjkibboeagjgnaaGreatEvArg
namespace Go.Proofs.YtjkibboeagjgnaaGreat.ringCancels
open Go.ChangeShapes Go.WideShapes Go.ChangeAt Go.RowKit Go.Ev

theorem und22 : Tryz.prog.underlying 22 = some (.int .u64) := by kernel_rfl
theorem und5 : Tryz.prog.underlying 5 = some (.int .u8) := by kernel_rfl
theorem und23 : Tryz.prog.underlying 23 = some (.int .u16) := by kernel_rfl

set_option maxRecDepth 100000 in
theorem contract (H : Type) (enc : TypeId × Value → H) (W : World) (base : Nat) (args : Array Value) (ds gs : List (DataW H)) (before : List MemPlace)
    (hval : ∀ (j : Nat) t v, Tryz.f3.params[j]? = some t → args[j]? = some v → Value.okWide Tryz.prog W .any base t v)
    (hW : DataW.Whole enc Tryz.prog Tryz.f3.params.toList Rows.ringCancelsSpec.vars false W args.toList ds gs before) :
    Calls Tryz.prog 3 args W fun e W' => ∃ v, e = .returned v ∧ Rows.ringCancelsSpec.post enc Tryz.prog Tryz.f3 false true false false W args v W' := by
  have hW' := hW
  obtain ⟨p, q, hA0, hV, rfl, hfz, hnd⟩ := hW
  have hA : DataW.TrodAll enc Tryz.prog W 0 (fun _ => true) true Tryz.f3.params.toList args.toList ds p := hA0
  rw [Tryz.params3] at hA hval
  obtain ⟨v0, vs0, d0, ds0, p0, q0, hargs, rfl, rfl, h0, r0⟩ := trodAll_cons hA
  obtain ⟨v1, vs1, d1, ds1, p1, q1, rfl, rfl, rfl, h1, r1⟩ := trodAll_cons r0
  obtain ⟨v2, vs2, d2, ds2, p2, q2, rfl, rfl, rfl, h2, r2⟩ := trodAll_cons r1
  obtain ⟨v3, vs3, d3, ds3, p3, q3, rfl, rfl, rfl, h3, r3⟩ := trodAll_cons r2
  obtain ⟨v4, vs4, d4, ds4, p4, q4, rfl, rfl, rfl, h4, r4⟩ := trodAll_cons r3
  obtain ⟨rfl, rfl, rfl⟩ := trodAll_nil r4
  obtain rfl : args = #[v0, v1, v2, v3, v4] := by cases args; simp_all
  obtain ⟨a, rfl, ha⟩ := int_has und22 (hval 0 22 v0 rfl rfl)
  obtain ⟨b, rfl, hb⟩ := int_has und22 (hval 1 22 v1 rfl rfl)
  obtain ⟨c, rfl, hc⟩ := int_has und5 (hval 2 5 v2 rfl rfl)
  obtain ⟨d, rfl, hd⟩ := int_has und23 (hval 3 23 v3 rfl rfl)
  obtain ⟨e, rfl, he⟩ := int_has und22 (hval 4 22 v4 rfl rfl)
  have hrun : Goal a b c d e := all a b c d e ⟨ha.1, ha.2, hb.1, hb.2, hc.1, hc.2, hd.1, hd.2, he.1, he.2⟩
  have hargs : VRs noMap (ringCancels.args a b c d e) (#[Value.int .u64 a, .int .u64 b, .int .u8 c, .int .u16 d, .int .u64 e] : Array Value).toList :=
    .cons (.int _ _) (.cons (.int _ _) (.cons (.int _ _) (.cons (.int _ _) (.cons (.int _ _) .nil))))
  refine (calls_run ev_zeros ev_codes ev_mixed cons2 hrun hargs (rep_none W 1000)).mono fun en W' ⟨m', h', hen, hg⟩ => ?_
  exact ⟨_, hen, post_true ev_laid (by kernel_rfl) (tb := 4) rfl und4 rfl rfl hW' hg (bare_nil 1000).still⟩

end Go.Proofs.YtjkibboeagjgnaaGreat.ringCancels
