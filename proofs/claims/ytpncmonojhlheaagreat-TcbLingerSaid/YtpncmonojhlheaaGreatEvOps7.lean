/- A part of a big-step evaluator of the model's language, with the proof that what it comes to, the model comes to for every tape. No conditions. -/
import Derived.Test.YtpncmonojhlheaaGreatEvOps6
namespace Go.Ev

variable {P : Program} {E : Env} {m : Mp} {h : AH} {w : World}

theorem plainEq_sound (hE : E.Types P) : ∀ (d t : Nat), E.plainEq d t = true → ∀ D, d ≤ D → P.eqGuardType D t = false := by
  intro d
  induction d with
  | zero => intro t e; cases e
  | succ d ih =>
    intro t e D hD
    obtain ⟨D, rfl⟩ : ∃ k, D = k + 1 := ⟨D - 1, by omega⟩
    simp only [Env.plainEq] at e
    simp only [Program.eqGuardType]
    split at e
    · rename_i ms hu
      rw [und_eq hE hu]; simp [e]
    · rename_i fs hu
      rw [und_eq hE hu]
      simp only
      rw [List.all_eq_true] at e
      rw [← Array.any_toList, List.any_eq_false]
      intro f hf
      have := e f hf
      rw [Bool.or_eq_true] at this
      rcases this with h1 | h1
      · rw [beq_iff_eq] at h1; simp [h1]
      · simp [ih _ h1 D (by omega)]
    · rename_i n el hu
      rw [und_eq hE hu]
      exact ih _ e D (by omega)
    · rename_i u hn1 hn2 hn3 hu
      rw [und_eq hE hu]
      cases u <;> first | rfl | (exact absurd rfl (hn1 _)) | (exact absurd rfl (hn2 _)) | (exact absurd rfl (hn3 _ _))
    · cases e

theorem eqGuardIn_nil (hE : E.Types P) {t : Nat} (e : E.plainEq 20 t = true) : (Op.eqGuardIn Op.maxDepth t .nilIface .nilIface).run P w = .ok false w := by
  obtain ⟨D, hD⟩ : ∃ D, Op.maxDepth = D + 1 := ⟨9999, rfl⟩
  rw [hD]
  simp only [Env.plainEq] at e
  simp only [Op.eqGuardIn, Sem.run_bind]
  split at e
  · rename_i ms hu
    rw [run_und hE hu]; simp [e]
  · rename_i fs hu
    rw [run_und hE hu]; rfl
  · rename_i n el hu
    rw [run_und hE hu]; rfl
  · rename_i u hn1 hn2 hn3 hu
    rw [run_und hE hu]
    cases u <;> first | rfl | (exact absurd rfl (hn1 _)) | (exact absurd rfl (hn2 _)) | (exact absurd rfl (hn3 _ _))
  · cases e

theorem isConst_matches (x : Operand) : (x matches .const _) = isConst x := by cases x <;> rfl

theorem guard_sound (hE : E.Types P) {t : Nat} {x y : Operand} {a b a' b' : Value} (e : E.eqMay t x y a b = true) (ha : VR m a a') (hb : VR m b b') (op : BinOp) :
    (eqGuard op t x y a' b').run P w = .ok () w := by
  have key : (match a', b' with
      | .nilIface, .nilIface => (do
        if isConst x || isConst y then return
        if ← Op.eqGuardIn Op.maxDepth t a' b' then unsupported (.noEntry "binop/eql: two nil values of an interface type with methods, neither of them the literal nil"))
      | .agg _, .agg _ => (do
        if !(← program).eqGuardType (← program).depth t then return
        if ← Op.eqGuardIn Op.maxDepth t a' b' then unsupported (.noEntry "binop/eql: two nil values of an interface type with methods, in a part of a struct or an array"))
      | _, _ => (pure () : Sem Unit)).run P w = .ok () w := by
    cases ha with
    | nilIface =>
      cases hb with
      | nilIface =>
        simp only [Env.eqMay] at e
        cases hc : (isConst x || isConst y) with
        | true => simp
        | false =>
          rw [hc] at e
          simp only [Bool.false_or] at e
          simp [eqGuardIn_nil hE e]
      | _ => rfl
    | agg hl hh =>
      cases hb with
      | agg hl' hh' =>
        simp only [Env.eqMay] at e
        have hd : 20 ≤ P.depth := by unfold Program.depth Made.depth; omega
        have := plainEq_sound hE 20 t e P.depth hd
        simp [this]
      | _ => rfl
    | _ => rfl
  have hx : ∀ x : Operand, (match x with | .const _ => true | _ => false) = isConst x := fun x => by cases x <;> rfl
  cases op <;> first | rfl | (unfold eqGuard; simp only [Bool.not_true, Bool.false_eq_true, if_false]; exact key)

theorem binOp_eql_run (t : Nat) {x x' y' : Value} (hx : VR m x x') (h1 : ∀ k n, x ≠ .int k n) (h2 : ∀ s, x ≠ .string s) : binOp .eql t x' y' = (do pure (.bool (← Op.equal t x' y'))) := by
  cases hx <;> first | (exact absurd rfl (h1 _ _)) | (exact absurd rfl (h2 _)) | (cases y' <;> rfl)
theorem binOp_neq_run (t : Nat) {x x' y' : Value} (hx : VR m x x') (h1 : ∀ k n, x ≠ .int k n) (h2 : ∀ s, x ≠ .string s) : binOp .neq t x' y' = (do pure (.bool (!(← Op.equal t x' y')))) := by
  cases hx <;> first | (exact absurd rfl (h1 _ _)) | (exact absurd rfl (h2 _)) | (cases y' <;> rfl)

theorem bin_sound (hE : E.Types P) (hr : Rep m h w) {op : BinOp} {t : Nat} {xo yo : Operand} {x y x' y' v : Value} (e : E.bin op t xo yo x y h = some v) (hx : VR m x x') (hy : VR m y y') :
    Does P m h w (do eqGuard op t xo yo x' y'; binOp op t x' y') v h := by
  unfold Env.bin at e
  split at e
  · rename_i k a
    split at e
    · rename_i j b
      have := hx.int_inv; subst this
      have := hy.int_inv; subst this
      have hv : flatV 10 v = true := by
        unfold binInts at e
        split at e
        · split at e
          · unfold bShl at e; cases b <;> cases e; rfl
          · unfold bShr at e; cases b <;> cases e; rfl
        · cases hk : kindEq k j with
          | false => rw [hk] at e; cases e
          | true =>
            rw [hk] at e
            simp only [cond_true] at e
            cases op <;> simp only [binInt, Option.some.injEq] at e <;> first
              | (cases e; rfl)
              | (cases e; done)
              | (unfold bAdd at e; cases e; rfl) | (unfold bSub at e; cases e; rfl) | (unfold bMul at e; cases e; rfl)
              | (unfold bQuo at e; cases hq : ieq b 0 <;> rw [hq] at e <;> cases e; rfl)
              | (unfold bRem at e; cases hq : ieq b 0 <;> rw [hq] at e <;> cases e; rfl)
              | (unfold bAnd at e; cases e; rfl) | (unfold bOr at e; cases e; rfl) | (unfold bXor at e; cases e; rfl) | (unfold bAndNot at e; cases e; rfl)
      refine .here hr (v' := v) ?_ (flatV_VR 10 v hv)
      rw [guard_int]
      exact binInts_run e t
    · cases e
  · rename_i a
    split at e
    · rename_i b
      have := hx.string_inv; subst this
      have := hy.string_inv; subst this
      obtain ⟨h1, h2⟩ := binStr_run (P := P) (w := w) e t
      refine .here hr (v' := v) ?_ (flatV_VR 10 v h2)
      rw [guard_str]
      exact h1
    · cases e
  · rename_i hni hns
    unfold Env.binEq at e
    split at e
    · cases hm : E.eqMay t xo yo x y with
      | false => rw [hm] at e; cases e
      | true =>
        rw [hm] at e
        simp only [cond_true] at e
        cases hq : E.eq h 30 t x y with
        | none => rw [hq] at e; cases e
        | some r =>
          rw [hq] at e
          cases e
          refine .here hr (v' := .bool r) ?_ (.bool _)
          simp only [Sem.run_bind, guard_sound hE hm hx hy, Result.andThen_ok, binOp_eql_run t hx (fun k n => hni k n) (fun s => hns s), Op.equal]
          rw [eq_sound hE hr 30 t x y r x' y' hq hx hy Op.maxDepth (by decide)]
          rfl
    · cases hm : E.eqMay t xo yo x y with
      | false => rw [hm] at e; cases e
      | true =>
        rw [hm] at e
        simp only [cond_true] at e
        cases hq : E.eq h 30 t x y with
        | none => rw [hq] at e; cases e
        | some r =>
          rw [hq] at e
          cases e
          refine .here hr (v' := .bool (!r)) ?_ (.bool _)
          simp only [Sem.run_bind, guard_sound hE hm hx hy, Result.andThen_ok, binOp_neq_run t hx (fun k n => hni k n) (fun s => hns s), Op.equal]
          rw [eq_sound hE hr 30 t x y r x' y' hq hx hy Op.maxDepth (by decide)]
          rfl
    · cases e

-- builtins

theorem lenOf_sound {x x' : Value} {n : Nat} (e : lenOf x = some n) (hx : VR m x x') : (Builtin.lenOf x').run P w = .ok n w := by
  cases hx <;> first | (cases e; rfl) | (cases e; done)

theorem strCells_eq (s : ByteArray) (n : Nat) : (((s.extract 0 n).data.map fun b => Value.int .u8 b.toNat) : Array Value).toList = (strCells s).take n := by
  unfold strCells
  rw [ByteArray.toList_eq]
  simp [Array.toList_map, ByteArray.data_extract]

theorem firstCells_sound (hr : Rep m h w) {size n len : Nat} {x x' : Value} {l : List Value} (e : firstCells size n x h = some l) (hx : VR m x x') (hn : lenOf x = some len) (hle : n ≤ len) :
    ∃ l', (∀ w1 : World, w1.heap = w.heap → (Builtin.firstCells size n x').run P w1 = .ok l'.toArray w1) ∧ VRs m l l' := by
  cases x with
  | slice a ln c =>
    simp only [lenOf, Option.some.injEq] at hn; subst hn
    cases a with
    | none =>
      cases e; cases hx
      exact ⟨[], fun _ _ => rfl, .nil⟩
    | some a =>
      simp only [firstCells] at e
      have key : ∀ (b d : Nat) (a' : Addr) (c' : Nat), m a.block = some (b, d) → x' = .slice (some a') ln c' → (ln ≠ 0 → a' = ⟨b, d + a.off, none⟩) →
          ∃ l', (∀ w1 : World, w1.heap = w.heap → (Builtin.firstCells size n x').run P w1 = .ok l'.toArray w1) ∧ VRs m l l' := by
        rintro b d a' c' hm rfl ha
        obtain ⟨l', h1, h2, h3⟩ := loadN_sound' (P := P) hr e hm
        refine ⟨l', ?_, h2⟩
        intro w1 hw1
        show (loadCells a' (n * size)).run P w1 = _
        by_cases h0 : ln = 0
        · have : n = 0 := by omega
          subst this
          have hl0 : l = [] := by cases l with
            | nil => rfl
            | cons x r => simp at h3
          subst hl0
          have := h2.nil_inv; subst this
          simp [loadCells, loadCellsFrom]
        · rw [ha h0]; exact h1 w1 hw1
      cases hx with
      | sliceExact hm ha hl => exact key _ _ _ _ hm rfl (fun h0 => ha (by omega))
      | sliceOpen hm hc ha hl hs => exact key _ _ _ _ hm rfl (fun h0 => ha (by omega))
  | string s =>
    cases e
    have := hx.string_inv; subst this
    refine ⟨(strCells s).take n, ?_, ?_⟩
    · intro w1 hw1
      have := strCells_eq s n
      simp only [Builtin.firstCells, Sem.run_pure]
      congr 1
      apply Array.ext'
      rw [this]
    · refine flat_list (n := 10) (fun v hv => flatV_VR 10 v hv) _ ?_
      rw [List.all_eq_true]
      intro v hv
      have := List.mem_of_mem_take hv
      unfold strCells at this
      rw [List.mem_map] at this
      obtain ⟨b, _, rfl⟩ := this
      rfl
  | _ => cases e

theorem len_sound (hE : E.Types P) (hr : Rep m h w) {ts : Array Nat} {x x' v : Value} (e : E.len ts.toList x h = some v) (hx : VR m x x') (t : Nat) : Does P m h w (Builtin.len_ ts t #[x']) v h := by
  unfold Env.len at e
  split at e
  · rename_i t0 ts' hts
    have h0 : ts[0]? = some t0 := by rw [← Array.getElem?_toList, hts]; rfl
    have hx0 : (#[x'] : Array Value)[0]? = some x' := rfl
    split at e
    · rename_i el hu
      split at e
      · rename_i a n c
        cases e
        have hrun : (Builtin.len_ ts t #[x']).run P w = .ok (.int .i64 n) w := by
          cases hx <;> simp [Builtin.len_, h0, run_und hE hu, goInt]
        exact .here hr hrun (.int _ _)
      · cases e
    · rename_i hu
      split at e
      · rename_i s
        cases e
        have := hx.string_inv; subst this
        exact .here hr (v' := .int .i64 s.size) (by simp [Builtin.len_, h0, run_und hE hu, goInt]) (.int _ _)
      · cases e
    · rename_i n el hu
      cases e
      exact .here hr (v' := .int .i64 n) (by simp [Builtin.len_, h0, run_und hE hu, goInt]) (.int _ _)
    · rename_i a hu
      split at e
      · rename_i n el hua
        cases e
        exact .here hr (v' := .int .i64 n) (by simp [Builtin.len_, h0, run_und hE hu, run_und hE hua, goInt]) (.int _ _)
      · cases e
    · rename_i k el hu
      split at e
      · cases e; cases hx
        exact .here hr (v' := .int .i64 0) (by simp [Builtin.len_, h0, run_und hE hu, goInt]) (.int _ _)
      · rename_i r
        split at e
        · rename_i es cl hmp
          cases e
          cases hx with
          | map hm =>
            unfold AH.map at hmp
            split at hmp
            · rename_i es' cl' hg
              cases hmp
              obtain ⟨b, d, y, h1, h2, h3⟩ := hr.obj _ _ hg
              rw [hm] at h1; cases h1
              cases h3 with
              | map hd hl hh =>
                refine .here hr (v' := .int .i64 es.length) ?_ (.int _ _)
                simp only [Builtin.len_, h0, hx0, Sem.run_bind, run_und hE hu, Result.andThen_ok, getObj, Sem.run, h2, goInt]
                simp [hl]
            · cases hmp
        · cases e
      · cases e
    · cases e
  · cases e

end Go.Ev
