/- A run of the law SockNils of the given program, whatever its input, comes to true. No conditions. -/
import Derived.Test.YtjkibboeagjgnaaGreatEvLive41
import Derived.Test.YtjkibboeagjgnaaGreatEvJoin
namespace Go.Proofs.YtjkibboeagjgnaaGreat.sockNils
open Go.ChangeShapes Go.WideShapes Go.ChangeAt Go.RowKit Go.Ev

noncomputable def con : Nat → Option Con := conAdd noCon 41 conYes
theorem cons : (envOf Tryz.prog 584 con).Cons Tryz.prog := cons_add no_cons yes41

noncomputable def nrun (a b c d e f : Int) : Option (Value × AH × Ob) :=
  irun Tryz.prog 584 con 1000 5 [.agg #[.int .i64 a, .int .i64 b, .int .i64 c, .int .i64 d, .int .u32 e, .int .u16 f]] ⟨.nil, 1000⟩

set_option maxRecDepth 100000 in
theorem ev (a b c d e f : Int) : fin (nrun a b c d e f) = want (nrun a b c d e f) := by kernel_rfl

noncomputable def ts : List TypeId := (Tryz.prog.cellTypes Tryz.prog.depth 65).getD []
theorem ts_some : (Tryz.prog.cellTypes Tryz.prog.depth 65).isSome = true := by kernel_rfl
theorem ts_len : ts.length = 6 := by kernel_rfl
def ks : List (Option IntKind) := [some .i64, some .i64, some .i64, some .i64, some .u32, some .u16]
theorem ts_kinds : Kinds Tryz.prog ts ks = true := by kernel_rfl
theorem ts_eq : Tryz.prog.cellTypes Tryz.prog.depth 65 = some ts := by
  have := ts_some
  unfold ts
  generalize Tryz.prog.cellTypes Tryz.prog.depth 65 = x at this ⊢
  cases x with
  | none => cases this
  | some y => rfl
theorem cells65 : Tryz.prog.cellsOf 65 = 6 := by kernel_rfl
theorem und65 : (match Tryz.prog.underlying 65 with | some (.struct _) => true | _ => false) = true := by kernel_rfl

set_option maxRecDepth 100000 in
theorem walk {W : World} {base : Nat} {v : Value} (hv : Value.okWide Tryz.prog W .any base 65 v) : Calls Tryz.prog 5 #[v] W fun en w' => ∃ m m' h', en = .returned (.bool true) ∧ Goes m ⟨.nil, 1000⟩ W m' h' w' := by
  have hu := und65
  unfold Value.okWide at hv
  generalize Tryz.prog.underlying 65 = x at hu hv
  cases x with
  | none => cases hu
  | some d =>
    cases d with
    | struct fs =>
      obtain ⟨cs, rfl, hsz, ts', ht, hn, hcell⟩ := hv
      rw [ts_eq] at ht
      cases ht
      rw [cells65] at hsz
      have hl : cs.toList.length = ts.length := by rw [ts_len]; simpa using hsz
      obtain ⟨xs, hsh, hlen, hvr, hrep⟩ := arg_abs (w := W) (r := .any) (base := base) ts_kinds hl (by rw [ts_len]; omega) (fun i v hi => by
        have hlt : i < 6 := by
          rcases Nat.lt_or_ge i 6 with hh | hh
          · exact hh
          · rw [List.getElem?_eq_none (by rw [hl, ts_len]; exact hh)] at hi; cases hi
        obtain ⟨u, h1, h2⟩ := hcell i v (by rw [← Array.getElem?_toList]; exact hi)
        rw [ts_len, Nat.mod_eq_of_lt hlt] at h1
        exact ⟨u, h1, h2⟩)
      have hx6 : xs.length = 6 := by rw [hlen, hl, ts_len]
      match xs, hx6, hsh with
      | [x0, x1, x2, x3, x4, x5], _, hsh =>
        obtain ⟨⟨a, rfl, _⟩, ⟨b, rfl, _⟩, ⟨c, rfl, _⟩, ⟨d, rfl, _⟩, ⟨e, rfl, _⟩, ⟨f, rfl, _⟩, _⟩ := hsh
        have hargs : VRs (argMp cs.toList) [.agg #[.int .i64 a, .int .i64 b, .int .i64 c, .int .i64 d, .int .u32 e, .int .u16 f]] (#[Value.agg cs] : Array Value).toList :=
          .cons (.agg hvr.1 hvr.2) .nil
        exact (calls_true ev_zeros ev_codes ev_mixed cons (ev a b c d e f) hargs hrep).mono fun en w' ⟨m', h', h1, h2⟩ => ⟨_, m', h', h1, h2⟩
    | _ => cases hu

set_option maxRecDepth 100000 in
theorem contract (H : Type) (enc : TypeId × Value → H) (W : World) (base : Nat) (args : Array Value) (ds gs : List (DataW H)) (before : List MemPlace)
    (hval : ∀ (j : Nat) t v, Tryz.f5.params[j]? = some t → args[j]? = some v → Value.okWide Tryz.prog W .any base t v)
    (hW : DataW.Whole enc Tryz.prog Tryz.f5.params.toList Rows.sockNilsSpec.vars false W args.toList ds gs before) :
    Calls Tryz.prog 5 args W fun e W' => ∃ v, e = .returned v ∧ Rows.sockNilsSpec.post enc Tryz.prog Tryz.f5 false true false false W args v W' := by
  have hW' := hW
  obtain ⟨p, q, hA0, hV, rfl, hfz, hnd⟩ := hW
  have hA : DataW.TrodAll enc Tryz.prog W 0 (fun _ => true) true Tryz.f5.params.toList args.toList ds p := hA0
  rw [Tryz.params5] at hA hval
  obtain ⟨v0, vs0, d0, ds0, p0, q0, hargs, rfl, rfl, h0, r0⟩ := trodAll_cons hA
  obtain ⟨rfl, rfl, rfl⟩ := trodAll_nil r0
  obtain rfl : args = #[v0] := by cases args; simp_all
  refine (walk (hval 0 65 v0 rfl rfl)).mono fun e W' ⟨m, m', h', he, hg⟩ => ?_
  exact ⟨_, he, post_true ev_laid (by kernel_rfl) (tb := 4) rfl und4 rfl rfl hW' hg (bare_nil 1000).still⟩

end Go.Proofs.YtjkibboeagjgnaaGreat.sockNils
