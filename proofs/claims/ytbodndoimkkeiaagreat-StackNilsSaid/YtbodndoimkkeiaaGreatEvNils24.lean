/- The law StackNils of the given program returns true for every input, and turns nothing that was there. No conditions. -/
import Derived.Test.YtbodndoimkkeiaaGreatEvArg
import Derived.Test.YtbodndoimkkeiaaGreatEvSeatR1
namespace Go.Proofs.YtbodndoimkkeiaaGreat.stackNils
open Go.ChangeShapes Go.WideShapes Go.ChangeAt Go.RowKit Go.Ev

noncomputable def nrun (a b c d e f g i j k l m n o p : Int) (h q r : Value) : Option (Value × AH × Ob) :=
  irun Tryz.prog 364 (conOne 12) 1000 7 [.agg #[.int .i64 a, .int .i64 b, .int .i64 c, .int .u8 d, .int .u8 e, .int .u32 f, .int .u32 g, h, .int .u32 i, .int .i64 j, .int .u32 k, .int .i64 l, .int .i64 m, .int .u8 n, .int .u32 o, .int .u32 p, q, r]] ⟨.nil, 1000⟩

set_option maxRecDepth 100000 in
theorem ev (a b c d e f g i j k l m n o p : Int) (h q r : Value) : fin (nrun a b c d e f g i j k l m n o p h q r) = want (nrun a b c d e f g i j k l m n o p h q r) := by kernel_rfl

noncomputable def ts : List TypeId := (Tryz.prog.cellTypes Tryz.prog.depth 89).getD []
theorem ts_some : (Tryz.prog.cellTypes Tryz.prog.depth 89).isSome = true := by kernel_rfl
theorem ts_len : ts.length = 18 := by kernel_rfl
def ks : List (Option IntKind) := [some .i64, some .i64, some .i64, some .u8, some .u8, some .u32, some .u32, none, some .u32, some .i64, some .u32, some .i64, some .i64, some .u8, some .u32, some .u32, none, none]
theorem ts_kinds : Kinds Tryz.prog ts ks = true := by kernel_rfl
theorem ts_eq : Tryz.prog.cellTypes Tryz.prog.depth 89 = some ts := by
  have := ts_some
  unfold ts
  generalize Tryz.prog.cellTypes Tryz.prog.depth 89 = x at this ⊢
  cases x with
  | none => cases this
  | some y => rfl
theorem cells89 : Tryz.prog.cellsOf 89 = 18 := by kernel_rfl
theorem und89 : (match Tryz.prog.underlying 89 with | some (.struct _) => true | _ => false) = true := by kernel_rfl

set_option maxRecDepth 100000 in
theorem walk {W : World} {base : Nat} {v : Value} (hv : Value.okWide Tryz.prog W .any base 89 v) : Calls Tryz.prog 7 #[v] W fun en w' => ∃ m m' h', en = .returned (.bool true) ∧ Goes m ⟨.nil, 1000⟩ W m' h' w' := by
  have hu := und89
  unfold Value.okWide at hv
  generalize Tryz.prog.underlying 89 = x at hu hv
  cases x with
  | none => cases hu
  | some d =>
    cases d with
    | struct fs =>
      obtain ⟨cs, rfl, hsz, ts', ht, hn, hcell⟩ := hv
      rw [ts_eq] at ht
      cases ht
      rw [cells89] at hsz
      have hl : cs.toList.length = ts.length := by rw [ts_len]; simpa using hsz
      obtain ⟨xs, hsh, hlen, hvr, hrep⟩ := arg_abs (w := W) (r := .any) (base := base) ts_kinds hl (by rw [ts_len]; omega) (fun i v hi => by
        have hlt : i < 18 := by
          rcases Nat.lt_or_ge i 18 with hh | hh
          · exact hh
          · rw [List.getElem?_eq_none (by rw [hl, ts_len]; exact hh)] at hi; cases hi
        obtain ⟨u, h1, h2⟩ := hcell i v (by rw [← Array.getElem?_toList]; exact hi)
        rw [ts_len, Nat.mod_eq_of_lt hlt] at h1
        exact ⟨u, h1, h2⟩)
      have hx18 : xs.length = 18 := by rw [hlen, hl, ts_len]
      match xs, hx18, hsh with
      | [x0, x1, x2, x3, x4, x5, x6, x7, x8, x9, x10, x11, x12, x13, x14, x15, x16, x17], _, hsh =>
        obtain ⟨⟨a, rfl⟩, ⟨b, rfl⟩, ⟨c, rfl⟩, ⟨d, rfl⟩, ⟨e, rfl⟩, ⟨f, rfl⟩, ⟨g, rfl⟩, ⟨i, rfl⟩, ⟨j, rfl⟩, ⟨k, rfl⟩, ⟨l, rfl⟩, ⟨m, rfl⟩, ⟨n, rfl⟩, ⟨o, rfl⟩, ⟨p, rfl⟩, _⟩ := hsh
        have hargs : VRs (argMp cs.toList) [.agg #[.int .i64 a, .int .i64 b, .int .i64 c, .int .u8 d, .int .u8 e, .int .u32 f, .int .u32 g, x7, .int .u32 i, .int .i64 j, .int .u32 k, .int .i64 l, .int .i64 m, .int .u8 n, .int .u32 o, .int .u32 p, x16, x17]] (#[Value.agg cs] : Array Value).toList :=
          .cons (.agg hvr.1 hvr.2) .nil
        exact (calls_true ev_zeros ev_codes ev_mixed ev_con24 (ev a b c d e f g i j k l m n o p x7 x16 x17) hargs hrep).mono fun en w' ⟨m', h', h1, h2⟩ => ⟨_, m', h', h1, h2⟩
    | _ => cases hu

theorem own : ownKnob Tryz.prog.godebug = none := by kernel_rfl
theorem und4 : Tryz.prog.underlying 4 = some .bool := by kernel_rfl

set_option maxRecDepth 100000 in
theorem contract (H : Type) (enc : TypeId × Value → H) (W : World) (base : Nat) (args : Array Value) (ds gs : List (DataW H)) (before : List MemPlace)
    (hval : ∀ (j : Nat) t v, Tryz.f7.params[j]? = some t → args[j]? = some v → Value.okWide Tryz.prog W .any base t v)
    (hW : DataW.Whole enc Tryz.prog Tryz.f7.params.toList Rows.stackNilsSpec.vars false W args.toList ds gs before) :
    Calls Tryz.prog 7 args W fun e W' => ∃ v, e = .returned v ∧ Rows.stackNilsSpec.post enc Tryz.prog Tryz.f7 false true false false W args v W' := by
  have hW' := hW
  obtain ⟨p, q, hA0, hV, rfl, hfz, hnd⟩ := hW
  have hA : DataW.TrodAll enc Tryz.prog W 0 (fun _ => true) true Tryz.f7.params.toList args.toList ds p := hA0
  rw [Tryz.params7] at hA hval
  obtain ⟨v0, vs0, d0, ds0, p0, q0, hargs, rfl, rfl, h0, r0⟩ := trodAll_cons hA
  obtain ⟨rfl, rfl, rfl⟩ := trodAll_nil r0
  obtain rfl : args = #[v0] := by cases args; simp_all
  refine (walk (hval 0 89 v0 rfl rfl)).mono fun e W' ⟨m, m', h', he, hg⟩ => ?_
  exact ⟨_, he, post_true ev_laid (by kernel_rfl) (tb := 4) rfl und4 rfl rfl hW' hg (bare_nil 1000)⟩

set_option maxRecDepth 100000 in
theorem lifted (os : Os) (started : os.Started) (H : Type) (enc : TypeId × Value → H) :
    ReturnsInHanded {} Tryz.checked os 7 .any (Rows.stackNilsSpec.pre6 enc Tryz.prog Tryz.f7 Rows.stackNilsRow.domain false) (Rows.stackNilsSpec.post enc Tryz.prog Tryz.f7 false true false false) := by
  refine returnsInHanded_of_change (C := Tryz.checked) own started (by kernel_rfl) Tryz.func7
    (ChangeSpec.witness6 (enc := enc) (C := Tryz.checked) false ⟨#[], #[.agg #[.int .i64 0, .int .i64 0, .int .i64 0, .int .u8 0, .int .u8 0, .int .u32 0, .int .u32 0, .slice none 0 0, .int .u32 0, .int .i64 0, .int .u32 0, .int .i64 0, .int .i64 0, .int .u8 0, .int .u32 0, .int .u32 0, .slice none 0 0, .slice none 0 0]], []⟩ 8 (by kernel_rfl) (by kernel_rfl) (by kernel_rfl) (by kernel_rfl)) ?_
  intro W base args ds gs before hval hW _ _
  exact contract H enc W base args ds gs before hval hW

theorem proved : Rows.StackNilsSaid :=
  OpenClaim.holds_of_wide 7 Tryz.f7 rfl rfl rfl rfl rfl rfl rfl ⟨rfl, rfl, rfl, rfl, rfl⟩ rfl rfl rfl rfl rfl (by kernel_rfl) Tryz.func7 (by kernel_rfl)
    (of_decide_eq_true (by kernel_rfl)) (by unfold Func.isWrapper; first | (rw [if_pos (by decide +kernel)]; kernel_rfl) | (rw [if_neg (by decide +kernel)]; exact ⟨rfl, rfl⟩))
    (fun os started H enc _ => lifted os started H enc)

end Go.Proofs.YtbodndoimkkeiaaGreat.stackNils
