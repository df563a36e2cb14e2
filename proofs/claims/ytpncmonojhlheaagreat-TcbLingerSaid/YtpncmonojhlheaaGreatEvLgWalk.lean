/- A call of the law TcbLinger returns true, whatever its input, and turns nothing that was there. No conditions. -/
import Derived.Test.YtpncmonojhlheaaGreatEvLgRun
namespace Go.Proofs.YtpncmonojhlheaaGreat.tcbLinger
open Go.ChangeShapes Go.WideShapes Go.ChangeAt Go.RowKit Go.Ev

noncomputable def ts : List TypeId := (Tryz.prog.cellTypes Tryz.prog.depth 26).getD []
theorem ts_some : (Tryz.prog.cellTypes Tryz.prog.depth 26).isSome = true := by kernel_rfl
theorem ts_len : ts.length = 20 := by kernel_rfl
def ks : List (Option IntKind) := [some .i64, some .i64, some .i64, some .i64, some .i64, some .i64, some .i64, some .i64, some .i64, some .i64, some .i64, some .i64, some .i64, some .i64, some .i64, some .i64, some .i64, some .i64, some .u32, some .u32]
theorem ts_kinds : Kinds Tryz.prog ts ks = true := by kernel_rfl
theorem ts_eq : Tryz.prog.cellTypes Tryz.prog.depth 26 = some ts := by
  have := ts_some
  unfold ts
  generalize Tryz.prog.cellTypes Tryz.prog.depth 26 = x at this ⊢
  cases x with
  | none => cases this
  | some y => rfl
theorem cells26 : Tryz.prog.cellsOf 26 = 20 := by kernel_rfl
theorem und26 : (match Tryz.prog.underlying 26 with | some (.struct _) => true | _ => false) = true := by kernel_rfl

set_option maxRecDepth 100000 in
theorem walk {W : World} {base : Nat} {v : Value} (hv : Value.okWide Tryz.prog W .any base 26 v) : Calls Tryz.prog 3 #[v] W fun en w' => ∃ m m' h', en = .returned (.bool true) ∧ Goes m ⟨.nil, 1000⟩ W m' h' w' := by
  have hu := und26
  unfold Value.okWide at hv
  generalize Tryz.prog.underlying 26 = x at hu hv
  cases x with
  | none => cases hu
  | some d =>
    cases d with
    | struct fs =>
      obtain ⟨cs, rfl, hsz, ts', ht, hn, hcell⟩ := hv
      rw [ts_eq] at ht
      cases ht
      rw [cells26] at hsz
      have hl : cs.toList.length = ts.length := by rw [ts_len]; simpa using hsz
      obtain ⟨xs, hsh, hlen, hvr, hrep⟩ := arg_abs (w := W) (r := .any) (base := base) ts_kinds hl (by rw [ts_len]; omega) (fun i v hi => by
        have hlt : i < 20 := by
          rcases Nat.lt_or_ge i 20 with hh | hh
          · exact hh
          · rw [List.getElem?_eq_none (by rw [hl, ts_len]; exact hh)] at hi; cases hi
        obtain ⟨u, h1, h2⟩ := hcell i v (by rw [← Array.getElem?_toList]; exact hi)
        rw [ts_len, Nat.mod_eq_of_lt hlt] at h1
        exact ⟨u, h1, h2⟩)
      have hx20 : xs.length = 20 := by rw [hlen, hl, ts_len]
      match xs, hx20, hsh with
      | [x0, x1, x2, x3, x4, x5, x6, x7, x8, x9, x10, x11, x12, x13, x14, x15, x16, x17, x18, x19], _, hsh =>
        obtain ⟨⟨aMss, rfl, h0⟩, ⟨aSnd, rfl, h1⟩, ⟨aRcv, rfl, h2⟩, ⟨aLeast, rfl, h3⟩, ⟨aMost, rfl, h4⟩, ⟨aFirst, rfl, h5⟩, ⟨aTries, rfl, h6⟩, ⟨aMsl, rfl, h7⟩, ⟨aUser, rfl, h8⟩, ⟨bMss, rfl, h9⟩, ⟨bSnd, rfl, h10⟩, ⟨bRcv, rfl, h11⟩, ⟨bLeast, rfl, h12⟩, ⟨bMost, rfl, h13⟩, ⟨bFirst, rfl, h14⟩, ⟨bTries, rfl, h15⟩, ⟨bMsl, rfl, h16⟩, ⟨bUser, rfl, h17⟩, ⟨ia, rfl, h18⟩, ⟨ib, rfl, h19⟩, _⟩ := hsh
        have hargs : VRs (argMp cs.toList) (args aMss aSnd aRcv aLeast aMost aFirst aTries aMsl aUser bMss bSnd bRcv bLeast bMost bFirst bTries bMsl bUser ia ib) (#[Value.agg cs] : Array Value).toList :=
          .cons (.agg hvr.1 hvr.2) .nil
        have hrun : Goal aMss aSnd aRcv aLeast aMost aFirst aTries aMsl aUser bMss bSnd bRcv bLeast bMost bFirst bTries bMsl bUser ia ib := all aMss aSnd aRcv aLeast aMost aFirst aTries aMsl aUser bMss bSnd bRcv bLeast bMost bFirst bTries bMsl bUser ia ib ⟨h0.1, h0.2, h1.1, h1.2, h2.1, h2.2, h3.1, h3.2, h4.1, h4.2, h5.1, h5.2, h6.1, h6.2, h7.1, h7.2, h8.1, h8.2, h9.1, h9.2, h10.1, h10.2, h11.1, h11.2, h12.1, h12.2, h13.1, h13.2, h14.1, h14.2, h15.1, h15.2, h16.1, h16.2, h17.1, h17.2, h18.1, h18.2, h19.1, h19.2⟩
        exact (calls_run ev_zeros ev_codes ev_mixed consL hrun hargs hrep).mono fun en w' ⟨m', h', h1, h2⟩ => ⟨_, m', h', h1, h2⟩
    | _ => cases hu

set_option maxRecDepth 100000 in
theorem contract (H : Type) (enc : TypeId × Value → H) (W : World) (base : Nat) (args : Array Value) (ds gs : List (DataW H)) (before : List MemPlace)
    (hval : ∀ (j : Nat) t v, Tryz.f3.params[j]? = some t → args[j]? = some v → Value.okWide Tryz.prog W .any base t v)
    (hW : DataW.Whole enc Tryz.prog Tryz.f3.params.toList Rows.tcbLingerSpec.vars false W args.toList ds gs before) :
    Calls Tryz.prog 3 args W fun e W' => ∃ v, e = .returned v ∧ Rows.tcbLingerSpec.post enc Tryz.prog Tryz.f3 false true false false W args v W' := by
  have hW' := hW
  obtain ⟨p, q, hA0, hV, rfl, hfz, hnd⟩ := hW
  have hA : DataW.TrodAll enc Tryz.prog W 0 (fun _ => true) true Tryz.f3.params.toList args.toList ds p := hA0
  rw [Tryz.params3] at hA hval
  obtain ⟨v0, vs0, d0, ds0, p0, q0, hargs, rfl, rfl, h0, r0⟩ := trodAll_cons hA
  obtain ⟨rfl, rfl, rfl⟩ := trodAll_nil r0
  obtain rfl : args = #[v0] := by cases args; simp_all
  refine (walk (hval 0 26 v0 rfl rfl)).mono fun e W' ⟨m, m', h', he, hg⟩ => ?_
  exact ⟨_, he, post_true ev_laid (by kernel_rfl) (tb := 4) rfl und4 rfl rfl hW' hg (bare_nil 1000).still⟩

end Go.Proofs.YtpncmonojhlheaaGreat.tcbLinger
