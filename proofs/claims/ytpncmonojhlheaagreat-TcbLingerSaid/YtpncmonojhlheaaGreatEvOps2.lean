/- A part of a big-step evaluator of the model's language, with the proof that what it comes to, the model comes to for every tape. No conditions. -/
import Derived.Test.YtpncmonojhlheaaGreatEvOps1
namespace Go.Ev

variable {P : Program} {E : Env} {m : Mp} {h : AH} {w : World}

def VRo (m : Mp) (a b : Option Value) : Prop := match a, b with
  | none, none => True
  | some v, some w => VR m v w
  | _, _ => False

theorem bound_run {x x' : Option Value} {dflt most k : Nat} (e : bound x dflt most = some k) (hx : VRo m x x') (hd : dflt ≤ most) :
    k ≤ most ∧ (x = none → k = dflt) ∧ (x = none ↔ x' = none) ∧ ∀ v c, x' = some v → (Instr.sliceBound v most c).run P w = .ok k w := by
  cases x with
  | none =>
    cases x' with
    | none => cases e; exact ⟨hd, fun _ => rfl, by simp, fun v c h => by cases h⟩
    | some v => exact hx.elim
  | some v =>
    cases x' with
    | none => exact hx.elim
    | some v' =>
      cases v with
      | int q i =>
        have hv : VR m (.int q i) v' := hx
        have := hv.int_inv; subst this
        unfold bound at e
        cases hb : (ile 0 i && ile i (.ofNat most)) with
        | false => simp only [hb] at e; cases e
        | true =>
          simp only [hb, cond_true, Option.some.injEq] at e
          rw [Bool.and_eq_true, ile_eq, ile_eq, decide_eq_true_iff, decide_eq_true_iff] at hb
          obtain ⟨h0, h1⟩ := hb
          have h1' : i ≤ (most : Int) := h1
          refine ⟨by omega, by simp, by simp, ?_⟩
          intro v c hv; cases hv
          simp only [Instr.sliceBound, asIntOf, Sem.run_bind, Sem.run_pure, Result.andThen_ok]
          rw [if_pos ⟨h0, h1'⟩, Sem.run_pure, e]
      | _ => cases e

/-- a bound that another cap lets by as well -/
theorem bound_more {x : Option Value} {dflt most more k : Nat} (e : bound x dflt most = some k) (hle : most ≤ more) : bound x dflt more = some k := by
  cases x with
  | none => exact e
  | some v =>
    cases v with
    | int q i =>
      unfold bound at e ⊢
      cases hb : (ile 0 i && ile i (.ofNat most)) with
      | false => simp only [hb] at e; cases e
      | true =>
        simp only [hb] at e
        rw [Bool.and_eq_true, ile_eq, ile_eq, decide_eq_true_iff, decide_eq_true_iff] at hb
        have h1' : i ≤ (most : Int) := hb.2
        have : (ile 0 i && ile i (.ofNat more)) = true := by
          rw [Bool.and_eq_true, ile_eq, ile_eq, decide_eq_true_iff, decide_eq_true_iff]
          refine ⟨hb.1, ?_⟩
          show i ≤ (more : Int)
          omega
        simp only [this]
        exact e
    | _ => cases e

theorem bounds_run {lo hi mx lo' hi' mx' : Option Value} {len cap cap' l k q : Nat} (b : Bool) (e : bounds lo hi mx len cap = some (l, k, q)) (h1 : VRo m lo lo') (h2 : VRo m hi hi') (h3 : VRo m mx mx')
    (hl : len ≤ cap) (hc : cap ≤ cap') : (Instr.sliceBounds b len cap' lo' hi' mx').run P w = .ok (l, k, if mx.isSome then q else cap') w ∧ (mx = none → q = cap) ∧ l ≤ k ∧ k ≤ q ∧ q ≤ cap := by
  unfold bounds at e
  have e' : (mx = none ∨ hi ≠ none) ∧ (match bound mx cap cap with
    | some m => (match bound hi len m with
      | some h => (match bound lo 0 h with
        | some l => some (l, h, m)
        | none => none)
      | none => none)
    | none => none) = some (l, k, q) := by
    cases mx <;> cases hi <;> first | (cases e; done) | exact ⟨by simp, e⟩
  obtain ⟨hmh, e⟩ := e'
  cases hq : bound mx cap cap with
  | none => rw [hq] at e; cases e
  | some q1 =>
    rw [hq] at e; simp only at e
    cases hk : bound hi len q1 with
    | none => rw [hk] at e; cases e
    | some k1 =>
      rw [hk] at e; simp only at e
      cases hlo : bound lo 0 k1 with
      | none => rw [hlo] at e; cases e
      | some l1 =>
        rw [hlo] at e; simp only [Option.some.injEq, Prod.mk.injEq] at e
        obtain ⟨rfl, rfl, rfl⟩ := e
        have hqle : q1 ≤ cap := (bound_run (P := P) (w := w) hq h3 (Nat.le_refl _)).1
        obtain ⟨-, hqn, hqi, hqr⟩ := bound_run (P := P) (w := w) (bound_more hq hc : bound mx cap cap' = some q1) h3 hc
        have hlen : mx = none → len ≤ q1 := fun hm => by rw [hqn hm]; exact hl
        obtain ⟨hle0, -, hlin, hlr⟩ := bound_run (P := P) (w := w) hlo h1 (Nat.zero_le _)
        have hkq : k1 ≤ q1 := by
          cases hi with
          | none =>
            rcases hmh with h | h
            · cases hk; exact hlen h
            · exact absurd rfl h
          | some v =>
            cases v with
            | int qq i =>
              unfold bound at hk
              cases hb : (ile 0 i && ile i (.ofNat q1)) with
              | false => simp only [hb] at hk; cases hk
              | true =>
                simp only [hb, cond_true, Option.some.injEq] at hk
                rw [Bool.and_eq_true, ile_eq, ile_eq, decide_eq_true_iff, decide_eq_true_iff] at hb
                have : i ≤ (q1 : Int) := hb.2
                omega
            | _ => cases hk
        have hkr : ∀ v more c, hi' = some v → q1 ≤ more → (Instr.sliceBound v more c).run P w = .ok k1 w := by
          intro v more c hv hle
          cases hi with
          | none => rw [hv] at h2; exact h2.elim
          | some u =>
            have hb2 : bound (some u) 0 more = some k1 := by
              have := bound_more hk hle
              cases u <;> exact this
            exact (bound_run (P := P) (w := w) hb2 h2 (Nat.zero_le _)).2.2.2 v c hv
        refine ⟨?_, fun hm => by rw [hm] at hq; cases hq; rfl, hle0, hkq, hqle⟩
        cases mx with
        | none =>
          cases mx' with
          | some v => exact h3.elim
          | none =>
            cases hi with
            | none =>
              cases hi' with
              | some v => exact h2.elim
              | none =>
                cases hk
                cases lo with
                | none => cases lo' with
                  | none => cases hlo; simp [Instr.sliceBounds]
                  | some v => exact h1.elim
                | some u => cases lo' with
                  | none => exact h1.elim
                  | some v => simp [Instr.sliceBounds, hlr v _ rfl]
            | some x =>
              cases hi' with
              | none => exact h2.elim
              | some y =>
                have hy : ∀ c, (Instr.sliceBound y cap' c).run P w = .ok k1 w := fun c => hkr y cap' c rfl (by omega)
                cases lo with
                | none => cases lo' with
                  | none => cases hlo; simp [Instr.sliceBounds, hy]
                  | some v => exact h1.elim
                | some u => cases lo' with
                  | none => exact h1.elim
                  | some v => simp [Instr.sliceBounds, hy, hlr v _ rfl]
        | some z =>
          cases mx' with
          | none => exact h3.elim
          | some z' =>
            cases hi with
            | none =>
              rcases hmh with h | h
              · cases h
              · exact absurd rfl h
            | some x =>
              cases hi' with
              | none => exact h2.elim
              | some y =>
                have hy : ∀ c, (Instr.sliceBound y q1 c).run P w = .ok k1 w := fun c => hkr y q1 c rfl (Nat.le_refl _)
                cases lo with
                | none => cases lo' with
                  | none => cases hlo; simp [Instr.sliceBounds, hqr z' _ rfl, hy]
                  | some v => exact h1.elim
                | some u => cases lo' with
                  | none => exact h1.elim
                  | some v => simp [Instr.sliceBounds, hqr z' _ rfl, hy, hlr v _ rfl]

theorem slice_sound (hE : E.Types P) (hr : Rep m h w) {t : Nat} {x x' v : Value} {lo hi mx lo' hi' mx' : Option Value} (e : E.slice t x lo hi mx = some v)
    (hx : VR m x x') (h1 : VRo m lo lo') (h2 : VRo m hi hi') (h3 : VRo m mx mx') : Does P m h w (Instr.sliceAt t x' lo' hi' mx') v h := by
  unfold Env.slice at e
  split at e
  · rename_i hu
    split at e
    · rename_i s
      have := hx.string_inv; subst this
      have hmx : mx' = none := by cases mx' with
        | none => rfl
        | some v => exact h3.elim
      subst hmx
      cases hb : bounds lo hi none s.size s.size with
      | none => rw [hb] at e; cases e
      | some r =>
        obtain ⟨l, k, q⟩ := r
        rw [hb] at e; cases e
        obtain ⟨hrun, _⟩ := bounds_run (P := P) (w := w) (mx' := none) false hb h1 h2 h3 (Nat.le_refl _) (Nat.le_refl _)
        refine .here hr (v' := .string (s.extract l k)) ?_ (.string _)
        simp only [Instr.sliceAt, Sem.run_bind, run_und hE hu, Result.andThen_ok, Instr.slice, Option.isSome_none, Bool.false_eq_true, if_false, hrun, Sem.run_pure]
    · cases e
  · rename_i el hu
    split at e
    · rename_i a len cap i hty
      cases hb : bounds lo hi mx len cap with
      | none => rw [hb] at e; cases e
      | some r =>
        obtain ⟨l, k, q⟩ := r
        rw [hb] at e
        simp only [cutSlice] at e
        -- run of the model, at whatever cap
        have run : ∀ (a' : Option Addr) (cap' : Nat), x' = .slice a' len cap' → len ≤ cap → cap ≤ cap' →
            (Instr.sliceAt t x' lo' hi' mx').run P w = .ok (.slice (if (if mx.isSome then q else cap') = l then a' else a'.map (·.add (l * i.size))) (k - l) ((if mx.isSome then q else cap') - l)) w := by
          rintro a' cap' rfl hl hc
          obtain ⟨hrun, _⟩ := bounds_run (P := P) (w := w) true hb h1 h2 h3 hl hc
          simp only [Instr.sliceAt, Sem.run_bind, run_und hE hu, Result.andThen_ok, Instr.slice, hrun, Sem.run_pure, run_size hE hty]
        cases hx with
        | sliceNil =>
          cases e
          obtain ⟨_, hq, hlk, hkq, hqc⟩ := bounds_run (P := P) (w := w) true hb h1 h2 h3 (Nat.le_refl _) (Nat.le_refl _)
          refine .here hr (run none 0 rfl (Nat.le_refl _) (Nat.le_refl _)) ?_
          have e1 : (if mx.isSome then q else 0) = 0 := by
            cases mx with
            | none => rfl
            | some _ => simp; omega
          rw [e1]
          simp only [Option.map_none, ite_self]
          have e2 : k - l = 0 := by omega
          have e3 : q - l = 0 := by omega
          rw [e2, e3, Nat.zero_sub]
          exact .sliceNil
        | sliceExact hm ha hl =>
          rename_i n o b d a'
          replace e : some (Value.slice (some ⟨n, o + l * i.size, cond mx.isSome none none⟩) (k - l) (q - l)) = some v := e
          cases e
          obtain ⟨_, hq, hlk, hkq, hqc⟩ := bounds_run (P := P) (w := w) true hb h1 h2 h3 hl (Nat.le_refl _)
          refine .here hr (run (some a') cap rfl hl (Nat.le_refl _)) ?_
          have e1 : (if mx.isSome then q else cap) = q := by
            cases mx with
            | none => exact (hq rfl).symm
            | some _ => rfl
          rw [e1]
          have e2 : (cond mx.isSome none (none : Option Nat)) = none := by cases mx.isSome <;> rfl
          rw [e2]
          have hsome : ∃ a2, (if q = l then some a' else (some a').map (·.add (l * i.size))) = some a2 ∧ (q - l ≠ 0 → a2 = ⟨b, d + (o + l * i.size), none⟩) := by
            by_cases hql : q = l
            · exact ⟨a', if_pos hql, fun hh => absurd hh (by omega)⟩
            · refine ⟨_, if_neg hql, fun hh => ?_⟩
              have := ha (by omega); subst this
              simp [add_none, Nat.add_assoc]
          obtain ⟨a2, ha2, ha3⟩ := hsome
          rw [ha2]
          exact .sliceExact hm ha3 (by omega)
        | sliceOpen hm hc ha hl hs =>
          rename_i n o b d cap' s a'
          have hsp : spotOk (some s) i.size mx.isSome = true := by
            cases hh : spotOk (some s) i.size mx.isSome with
            | true => rfl
            | false => simp only [hh] at e; cases e
          simp only [hsp, cond_true] at e
          cases e
          obtain ⟨_, hq, hlk, hkq, hqc⟩ := bounds_run (P := P) (w := w) true hb h1 h2 h3 hl (Nat.le_refl _)
          refine .here hr (run (some a') cap' rfl hl hc) ?_
          generalize hq' : (if mx.isSome then q else cap') = q'
          have hqq : q ≤ q' := by
            cases mx with
            | none => simp at hq'; have := hq rfl; omega
            | some _ => simp at hq'; omega
          have hq'c : q' ≤ cap' := by
            cases mx with
            | none => simp at hq'; omega
            | some _ => simp at hq'; omega
          have hsome : ∃ a2, (if q' = l then some a' else (some a').map (·.add (l * i.size))) = some a2 ∧ (q' - l ≠ 0 → a2 = ⟨b, d + (o + l * i.size), none⟩) := by
            by_cases hql : q' = l
            · exact ⟨a', if_pos hql, fun hh => absurd hh (by omega)⟩
            · refine ⟨_, if_neg hql, fun hh => ?_⟩
              have := ha (by omega); subst this
              simp [add_none, Nat.add_assoc]
          obtain ⟨a2, ha2, ha3⟩ := hsome
          rw [ha2]
          cases mx with
          | none =>
            have hqe : q = cap := hq rfl
            simp only [Option.isSome_none, Bool.false_eq_true, if_false] at hq'
            subst hq'
            refine .sliceOpen hm (by omega) ha3 (by omega) (fun hh => ?_)
            have hss : s = i.size := by
              simp only [spotOk, Option.isSome_none, Bool.false_or] at hsp
              exact Nat.eq_of_beq_eq_true hsp
            have hs1 := hs (by omega)
            subst hss
            have : l * i.size + (cap' - l) * i.size = cap' * i.size := by rw [← Nat.add_mul]; congr 1; omega
            omega
          | some u =>
            simp only [Option.isSome_some, if_true] at hq'
            subst hq'
            exact .sliceExact hm ha3 (by omega)
    · cases e
  · rename_i len el hu
    split at e
    · rename_i i hty
      obtain ⟨b, o, rfl, e⟩ := atAddr_some e
      obtain ⟨b', d, hm, rfl⟩ := vr_ptr hx
      cases hb : bounds lo hi mx len len with
      | none => rw [hb] at e; cases e
      | some r =>
        obtain ⟨l, k, q⟩ := r
        rw [hb] at e
        replace e : some (Value.slice (some ⟨b, o + l * i.size, cond true none none⟩) (k - l) (q - l)) = some v := e
        cases e
        obtain ⟨hrun, hq, hlk, hkq, hqc⟩ := bounds_run (P := P) (w := w) false hb h1 h2 h3 (Nat.le_refl _) (Nat.le_refl _)
        have e1 : (if mx.isSome then q else len) = q := by
          cases mx with
          | none => exact (hq rfl).symm
          | some _ => rfl
        rw [e1] at hrun
        refine .here hr (v' := .slice (some (if q = l then ⟨b', d + o, none⟩ else ⟨b', d + (o + l * i.size), none⟩)) (k - l) (q - l)) ?_ (.sliceExact hm ?_ (by omega))
        · simp only [Instr.sliceAt, Sem.run_bind, run_und hE hu, Result.andThen_ok, Instr.sureAddr, Sem.run_pure, hrun, run_size hE hty, add_none, Nat.add_assoc]
        · intro hh; rw [if_neg (by omega)]
    · cases e
  · cases e

end Go.Ev
