/- A part of a big-step evaluator of the model's language, with the proof that what it comes to, the model comes to for every tape. No conditions. -/
import Derived.Test.YtpncmonojhlheaaGreatEvSnd1
namespace Go.Ev

variable {P : Program} {E : Env} {m : Mp} {h : AH} {w : World} {inv : Inv}

theorem finish_at {b : Frame} {a : Act} {ops : Array Oper} {i : Nat} {rest : List Nat} {k : List Item} {o : Oper} (ho : ops[i]? = some o) (v : Value) :
    (b.atR a (.inRegion ops (i :: rest) :: k)).finish v = b.atR (a.put o.dst v) (.inRegion ops rest :: k) := by
  rw [Frame.finish_atR, ho]; rfl

theorem semAt_val {o : Oper} {_ : Operand → Value} {r' : Operand → Value} (ro : Option Nat) (hn : ∀ c, o.op ≠ .defer c) : o.semAt ro r' = execOp r' o := Oper.semAt_eq ro r' o hn

theorem noDefer_val {o : Op} {r : Operand → Value} {v : Value} {h' : AH} (e : E.op r o h = .val v h') : ∀ c, o ≠ .defer c := by
  rintro c rfl
  simp only [Env.op, opDefer] at e
  split at e
  · split at e <;> cases e
  · cases e
theorem noDefer_inv {o : Op} {r : Operand → Value} {t : Target} {l : List Value} (e : E.op r o h = .inv t l) : ∀ c, o ≠ .defer c := by
  rintro c rfl
  simp only [Env.op, opDefer] at e
  split at e
  · split at e <;> cases e
  · cases e

/-- one operation that comes to a value -/
theorem step_val {b : Frame} {a : Act} {ops : Array Oper} {i : Nat} {rest : List Nat} {k : List Item} {cs : List Frame} {o : Oper} (ho : ops[i]? = some o) (hw : Region.wanted o (yielded ops a.tmps) = true)
    {nx : Next} {v : Value} {w' : World} (hn : ∀ c, o.op ≠ .defer c) (hr : (execOp a.eval o).run P w = .ok nx w') (hx : nx = .value v ∨ (nx = .skip ∧ v = undef)) :
    step P (lone (b.atR a (.inRegion ops (i :: rest) :: k)) cs w) = .next (lone (b.atR (a.put o.dst v) (.inRegion ops rest :: k)) cs w') := by
  have hg := stepGR_op (P := P) (b := b) (k := k) (cs := cs) (w := w) (rest := rest) ho hw
  rw [Oper.semAt_eq b.roundOf a.eval o hn] at hg
  refine step_lone_go ?_
  rw [hg, ← finish_at ho]
  rcases hx with rfl | ⟨rfl, rfl⟩ <;> simp [stepG.apply, hr]

/-- one operation that is not wanted -/
theorem step_unwanted {b : Frame} {a : Act} {ops : Array Oper} {i : Nat} {rest : List Nat} {k : List Item} {cs : List Frame} {o : Oper} (ho : ops[i]? = some o) (hw : Region.wanted o (yielded ops a.tmps) = false) :
    step P (lone (b.atR a (.inRegion ops (i :: rest) :: k)) cs w) = .next (lone (b.atR (a.put o.dst undef) (.inRegion ops rest :: k)) cs w) := by
  have := stepR_op_skip (P := P) (b := b) (a := a) (k := k) (cs := cs) (w := w) (ops := ops) (i := i) (rest := rest) (by simp [ho, hw])
  rw [ho] at this
  exact this

theorem step_call {b : Frame} {a : Act} {ops : Array Oper} {i : Nat} {rest : List Nat} {k : List Item} {cs : List Frame} {o : Oper} (ho : ops[i]? = some o) (hw : Region.wanted o (yielded ops a.tmps) = true)
    {nx : Next} {w' : World} {entry : CallKind → Frame} (hn : ∀ c, o.op ≠ .defer c) (hr : (execOp a.eval o).run P w = .ok nx w') (hx : Entry P nx entry) :
    step P (lone (b.atR a (.inRegion ops (i :: rest) :: k)) cs w) = .next (lone (entry .normal) (b.atR a (.inRegion ops (i :: rest) :: k) :: cs) w') := by
  have hg := stepGR_op (P := P) (b := b) (k := k) (cs := cs) (w := w) (rest := rest) ho hw
  rw [Oper.semAt_eq b.roundOf a.eval o hn] at hg
  refine step_lone_go ?_
  rw [hg]
  cases hx <;> simp [stepG.apply, hr, Frame.atR]

theorem step_dfr {b : Frame} {a : Act} {ops : Array Oper} {i : Nat} {rest : List Nat} {k : List Item} {cs : List Frame} {o : Oper} (ho : ops[i]? = some o) (hw : Region.wanted o (yielded ops a.tmps) = true)
    {d : Deferred} (hb : b.roundOf = none) (hr : (execOp a.eval o).run P w = .ok (.defer d) w) :
    step P (lone (b.atR a (.inRegion ops (i :: rest) :: k)) cs w) = .next (lone (b.atR ({ a with defers := d :: a.defers }.put o.dst undef) (.inRegion ops rest :: k)) cs w) := by
  have hg := stepGR_op (P := P) (b := b) (k := k) (cs := cs) (w := w) (rest := rest) ho hw
  rw [hb, Oper.semAt_none] at hg
  refine step_lone_go ?_
  have := finish_at (b := b) (a := { a with defers := d :: a.defers }) (rest := rest) (k := k) ho undef
  rw [hg]
  simp only [stepG.apply, Sem.runT_eq, hr, GStep.bare_after]
  exact congrArg (fun fr => GStep.go { frame := fr, callers := cs, status := .running, dying := none } w) this

theorem SR.goes {s s' : St} {a : Act} {w' : World} {m' : Mp} (hs : SR m s a w) (g : Goes m s.h w m' s'.h w') (ht : s'.tm = s.tm) (hd : s'.df = s.df) : SR m' s' a w' :=
  ⟨by rw [ht]; exact hs.tm.mono g.ext, by rw [hd]; exact hs.df.mono g.ext, g.rep⟩

/-- what is done after an operation has been reckoned -/
theorem after_sound (hE : E.Types P) (hi : InvOK P E inv) {ro : Option Nat} {b : Frame} {a : Act} {ops : Array Oper} {i : Nat} {rest : List Nat} {k : List Item} {cs : List Frame} {o : Oper} (ho : ops[i]? = some o)
    (hok : okOp o.op = true) {s s' : St} (hs : SR m s a w) (hb : RoR m ro b.roundOf) (hw : wanted ops.toList s.tm o.guard = true) (e : after1 inv ro.isSome o.dst s (E.op (eval s.tm) o.op s.h) = some s') :
    ∃ m' w' a', Goes m s.h w m' s'.h w' ∧ SR m' s' a' w' ∧ Steps P (lone (b.atR a (.inRegion ops (i :: rest) :: k)) cs w) (lone (b.atR a' (.inRegion ops rest :: k)) cs w') := by
  have hrr := eval_RR hs.tm
  rw [wanted_eq hs.tm o] at hw
  unfold after1 at e
  split at e
  · rename_i v h1 he
    cases e
    obtain ⟨nx, w', m', v', r1, r2, r3, r4⟩ := op_val hE hs.rep he hok hrr
    refine ⟨m', w', a.put o.dst v', r3, ⟨put_VRs (hs.tm.mono r3.ext) r4, ?_, r3.rep⟩, .one (step_val ho hw (noDefer_val he) r1 r2)⟩
    rw [put_defers]; exact hs.df.mono r3.ext
  · rename_i t l he
    split at e
    · rename_i v h1 hiv
      cases e
      obtain ⟨t', a', q1, q2, q3⟩ := op_inv (P := P) he hok hrr
      obtain ⟨nx, entry, z1, z2, z3⟩ := hi t l s.h v h1 hiv m w t' a' q2 q3 hs.rep
      obtain ⟨m', w', v', g, hv, st⟩ := z3 .normal (b.atR a (.inRegion ops (i :: rest) :: k)) cs (.inl rfl)
      refine ⟨m', w', a.put o.dst v', g, ⟨put_VRs (hs.tm.mono g.ext) hv, ?_, g.rep⟩, .head (step_call ho hw (noDefer_inv he) (by rw [q1]; exact z1) z2) ?_⟩
      · rw [put_defers]; exact hs.df.mono g.ext
      · simp only [backTo, finish_at ho] at st
        exact st
    · cases e
  · rename_i d he
    cases ro with
    | some l => cases e
    | none =>
      cases e
      have hbn : b.roundOf = none := by
        cases hh : b.roundOf with
        | none => rfl
        | some l => rw [hh] at hb; cases hb
      obtain ⟨c, d', q1, q2, q3⟩ := op_dfr (P := P) he hok hrr
      refine ⟨m, w, _, .refl hs.rep, ⟨?_, ?_, hs.rep⟩, .one (step_dfr ho hw hbn (q2 w))⟩
      · exact put_VRs (a := { a with defers := d' :: a.defers }) hs.tm (VR.undef m)
      · rw [put_defers]; exact ⟨q3, hs.df⟩
  · cases e

theorem cstep_sound (hE : E.Types P) (hi : InvOK P E inv) {ro : Option Nat} {b : Frame} {a : Act} {ops : Array Oper} {i : Nat} {rest : List Nat} {k : List Item} {cs : List Frame} {o : Oper} (ho : ops[i]? = some o)
    (hok : okOp o.op = true) {s s' : St} (hs : SR m s a w) (hb : RoR m ro b.roundOf) (e : (cstep E inv ro.isSome ops.toList o).run s = some s') :
    ∃ m' w' a', Goes m s.h w m' s'.h w' ∧ SR m' s' a' w' ∧ Steps P (lone (b.atR a (.inRegion ops (i :: rest) :: k)) cs w) (lone (b.atR a' (.inRegion ops rest :: k)) cs w') := by
  unfold cstep at e
  split at e
  · rename_i hg
    simp only [after1C, cop_eq] at e
    exact after_sound hE hi ho hok hs hb (by rw [hg]; rfl) e
  · rename_i g hg
    simp only [cop_eq] at e
    split at e
    · rename_i hw
      exact after_sound hE hi ho hok hs hb (by rw [hg]; exact hw) e
    · rename_i hw
      cases e
      rw [← hg, wanted_eq hs.tm o] at hw
      refine ⟨m, w, a.put o.dst undef, .refl hs.rep, ⟨put_VRs hs.tm (VR.undef m), by rw [put_defers]; exact hs.df, hs.rep⟩, .one (step_unwanted ho hw)⟩

theorem cops_sound (hE : E.Types P) (hi : InvOK P E inv) {fn : Nat} {ro : Option Nat} {ops : Array Oper} (hok : ∀ o ∈ ops.toList, okOp o.op = true) : ∀ (l : List Oper) (j : Nat), ops.toList.drop j = l →
    OpsOK P fn ro ops (List.range' j l.length) (cops E inv ro.isSome ops.toList l) := by
  intro l
  induction l with
  | nil =>
    intro j hj s s' e m w a b hb hro hs k cs
    cases e
    exact ⟨m, w, a, .refl hs.rep, hs, .one stepR_region_end⟩
  | cons o r ih =>
    intro j hj s s' e m w a b hb hro hs k cs
    have ho : ops[j]? = some o := by
      have := congrArg (fun l => l[0]?) hj
      simpa using this
    have hr : ops.toList.drop (j + 1) = r := by
      have := congrArg (List.drop 1) hj
      rw [List.drop_drop] at this
      simpa using this
    have e : (match (cstep E inv ro.isSome ops.toList o).run s with
      | some s' => (cops E inv ro.isSome ops.toList r).run s'
      | none => none) = some s' := e
    split at e
    · rename_i s1 hs1
      obtain ⟨m1, w1, a1, g1, sr1, st1⟩ := cstep_sound (b := b) (rest := List.range' (j + 1) r.length) (k := k) (cs := cs) hE hi ho (hok o (List.mem_of_getElem? (by rw [Array.getElem?_toList]; exact ho))) hs hro hs1
      obtain ⟨m2, w2, a2, g2, sr2, st2⟩ := ih (j + 1) hr s1 s' e m1 w1 a1 b hb (hro.mono g1.ext) sr1 k cs
      refine ⟨m2, w2, a2, g1.trans g2, sr2, Steps.trans ?_ st2⟩
      simpa [List.range'_succ] using st1
    · cases e

theorem region_sound (hE : E.Types P) (hi : InvOK P E inv) {fn : Nat} {ro : Option Nat} {ops : Array Oper} (hok : ∀ o ∈ ops.toList, okOp o.op = true) (id : Nat) :
    CodeOK P fn ro (.region id ops false) ⟨fun s => R.of ((cops E inv ro.isSome ops.toList ops.toList).run s)⟩ := by
  intro s ax s' e m w a b hb hro hs k cs
  simp only at e
  cases hc : (cops E inv ro.isSome ops.toList ops.toList).run s with
  | none => rw [hc] at e; cases e
  | some s1 =>
    rw [hc] at e
    cases e
    obtain ⟨m', w', a', g, sr, st⟩ := cops_sound (fn := fn) hE hi hok ops.toList 0 rfl s _ hc m w a b hb hro hs k cs
    refine ⟨m', w', a', g, sr, ?_⟩
    have : List.range' 0 ops.toList.length = List.range ops.size := by rw [List.range_eq_range']; simp
    rw [this] at st
    exact .head stepR_region st

-- loops

theorem stepR_scope {b : Frame} {a : Act} {k : List Item} {cs : List Frame} {c : Code} : step P (lone (b.atR a (.code (.scope c) :: k)) cs w) = .next (lone (b.atR a (.code c :: .inScope c :: k)) cs w) :=
  step_lone_go (by simp [stepG, stepG.exec, Frame.atR])
theorem stepR_inScope {b : Frame} {a : Act} {k : List Item} {cs : List Frame} {c : Code} : step P (lone (b.atR a (.inScope c :: k)) cs w) = .next (lone (b.atR a k) cs w) :=
  step_lone_go (by simp [stepG, stepG.exec, Frame.atR])

theorem loopN_sound {fn : Nat} {ro : Option Nat} {c : Code} {x : CR} (hc : CodeOK P fn ro c x) : ∀ (n : Nat) s ax s', loopN x.run n s = .ok ax s' → ∀ m w a (b : Frame), b.fn = fn → RoR m ro b.roundOf → SR m s a w →
    ∀ k cs, ∃ m' w' a', Goes m s.h w m' s'.h w' ∧ SR m' s' a' w' ∧ Arr P (lone (b.atR a (.code c :: .inLoop c :: k)) cs w) b k cs ax a' w' := by
  intro n
  induction n with
  | zero => intro s ax s' e; cases e
  | succ n ih =>
    intro s ax s' e m w a b hb hro hs k cs
    have e : (x.run s).andThen (loopN x.run n) = .ok ax s' := e
    cases hx : x.run s with
    | no => rw [hx] at e; cases e
    | ok ax1 s1 =>
      rw [hx] at e
      obtain ⟨m1, w1, a1, g1, sr1, st1⟩ := hc s ax1 s1 hx m w a b hb hro hs (.inLoop c :: k) cs
      cases ax1 with
      | normal =>
        obtain ⟨m2, w2, a2, g2, sr2, st2⟩ := ih s1 ax s' e m1 w1 a1 b hb (hro.mono g1.ext) sr1 k cs
        exact ⟨m2, w2, a2, g1.trans g2, sr2, .of_steps (Steps.trans st1 (.one stepR_inLoop)) st2⟩
      | exit id => cases e; exact ⟨m1, w1, a1, g1, sr1, .pass (fun _ => rfl) (by simp) st1⟩
      | ret => cases e; exact ⟨m1, w1, a1, g1, sr1, .pass (fun _ => rfl) (by simp) st1⟩
      | goto l => exact st1.elim

end Go.Ev
