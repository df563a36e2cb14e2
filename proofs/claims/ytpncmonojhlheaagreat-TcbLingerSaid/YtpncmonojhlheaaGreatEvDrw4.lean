/- A part of a big-step evaluator of the model's language, with the proof that what it comes to, the model comes to for every tape. No conditions. -/
import Derived.Test.YtpncmonojhlheaaGreatEvDrw3
namespace Go.Ev

variable {P : Program} {E : Env} {m : Mp} {h : AH} {w : World} {inv : Inv}

structure Ctx (ops : Array Oper) (bs ord : List Nat) (X : Nat → Nat) (na : Nat) : Prop where
  good : Good ops.toList bs
  edges : ∀ (i : Nat) (o : Oper), ops.toList[i]? = some o → ∀ e ∈ o.after.toList, Region.binds .any e = true → e.on < ops.toList.length
  split : ∀ C i R, ord = C ++ i :: R → i < ops.toList.length ∧ i ∉ C ∧ ∀ j < ops.toList.length, B bs i j → j ∈ C
  cover : ∀ i < ops.toList.length, i ∈ ord
  late : ∀ C i R, ord = C ++ i :: R → effAt ops.toList i = true ∨ ∀ e, R.find? (effAt ops.toList) = some e → B bs e i
  two : ∀ e f, e < ops.toList.length → f < ops.toList.length → effAt ops.toList e = true → effAt ops.toList f = true → e ≠ f → B bs e f ∨ B bs f e
  uniq : ∀ (i j : Nat) (o q : Oper) (d : Nat), ops.toList[i]? = some o → ops.toList[j]? = some q → o.dst = some d → q.dst = some d → i = j
  opnd : ∀ (i j : Nat) (o q : Oper) (d : Nat), ops.toList[i]? = some o → ops.toList[j]? = some q → q.dst = some d → i ≠ j → Operand.tmp d ∈ o.op.operands.toList → B bs i j ∨ B bs j i
  gd : ∀ (i : Nat) (o : Oper) (g : Nat) (want : Bool), ops.toList[i]? = some o → o.guard = some (g, want) → B bs i g
  xread : ∀ (i : Nat) (o : Oper), ops.toList[i]? = some o → cls o.op = .read → X i = ((ord.filter (effAt ops.toList)).takeWhile fun e => (bs.getD i 0).testBit e).length
  xalloc : ∀ i j, i < ops.toList.length → j < ops.toList.length → allocAt ops.toList i = true → allocAt ops.toList j = true → X i = X j → i = j
  xlt : ∀ i, i < ops.toList.length → allocAt ops.toList i = true → X i < na

theorem idxOf_get {l : List Nat} {i : Nat} (h : i ∈ l) : l[l.idxOf i]? = some i := by
  induction l with
  | nil => cases h
  | cons x l ih =>
    rw [List.idxOf_cons]
    cases hx : x == i with
    | true => simp [eq_of_beq hx]
    | false =>
      simp only [cond_false]
      cases h with
      | head => simp at hx
      | tail _ h => simpa using ih h

theorem plan_ctx {ops : Array Oper} {p : Plan} (h : plan ops.toList = some p) : ∃ ord X, p.steps = ord.map (fun i => (i, X i)) ∧ Ctx ops (befores ops.toList []) ord X p.allocs := by
  unfold plan at h
  generalize hL : ops.toList = L at h ⊢
  simp only at h
  generalize hbs : befores L [] = bs at h ⊢
  generalize hord : (planEffs bs (List.range L.length) ((List.range L.length).filter (effAt L)) 0).1 ++ (planSome (2 ^ L.length - 1) (List.range L.length) (planEffs bs (List.range L.length) ((List.range L.length).filter (effAt L)) 0).2).1 = ord at h
  split at h
  · rename_i hc
    cases h
    simp only [Bool.and_eq_true] at hc
    obtain ⟨⟨⟨⟨c1, c2⟩, c3⟩, c4⟩, c5⟩ := hc
    obtain ⟨t1, t2, t3⟩ := tmpsOk_facts c2
    obtain ⟨o1, o2⟩ := ordOk_split ord [] c3
    have hcover : ∀ i < L.length, i ∈ ord := fun i hi => (o1 i hi).resolve_left (by simp)
    refine ⟨ord, _, rfl, ?_⟩
    constructor
    · rw [hL, ← hbs]; exact befores_ok L
    · rw [hL]
      intro i o ho e he hb
      unfold edgesIn at c5
      rw [List.all_eq_true] at c5
      have := c5 o (List.mem_of_getElem? ho)
      rw [← Array.all_toList, List.all_eq_true] at this
      have := this e he
      rw [hb] at this
      simp only [Bool.not_true, Bool.false_or] at this
      exact Nat.le_of_ble_eq_true this
    · rw [hL]
      intro C i R hh
      obtain ⟨q1, q2, _, q4⟩ := o2 C i R hh
      exact ⟨q1, q2, fun j hj hb => (q4 j hj hb).resolve_right (by simp)⟩
    · rw [hL]; exact hcover
    · rw [hL]; exact lateOk_split ord c4
    · rw [hL]
      intro e f he hf h1 h2 hne
      exact effsOk_two _ c1 e f (List.mem_filter.2 ⟨List.mem_range.2 he, h1⟩) (List.mem_filter.2 ⟨List.mem_range.2 hf, h2⟩) hne
    · rw [hL]; exact t1
    · rw [hL]; exact t2
    · rw [hL]; exact t3
    · rw [hL]
      intro i o ho hcl
      simp only [extraOf, ho, hcl]
    · rw [hL]
      intro i j hi hj ai aj hx
      have key : ∀ i, i < L.length → allocAt L i = true → extraOf L (ord.filter (effAt L)) (ord.filter (allocAt L)) bs i = (ord.filter (allocAt L)).idxOf i := by
        intro i hi ai
        unfold allocAt at ai
        unfold extraOf
        cases ho : L[i]? with
        | none => rw [ho] at ai; cases ai
        | some o =>
          rw [ho] at ai
          simp only [isAlloc_iff.1 ai]
      rw [key i hi ai, key j hj aj] at hx
      have g1 := idxOf_get (l := ord.filter (allocAt L)) (List.mem_filter.2 ⟨hcover i hi, ai⟩)
      have g2 := idxOf_get (l := ord.filter (allocAt L)) (List.mem_filter.2 ⟨hcover j hj, aj⟩)
      rw [hx, g2] at g1
      cases g1; rfl
    · rw [hL]
      intro i hi ai
      have hmem : i ∈ ord.filter (allocAt L) := List.mem_filter.2 ⟨hcover i hi, ai⟩
      have g1 := idxOf_get hmem
      unfold allocAt at ai
      unfold extraOf
      cases ho : L[i]? with
      | none => rw [ho] at ai; cases ai
      | some o =>
        rw [ho] at ai
        simp only [isAlloc_iff.1 ai]
        rcases Nat.lt_or_ge ((ord.filter (allocAt L)).idxOf i) (ord.filter (allocAt L)).length with hlt | hge
        · exact hlt
        · rw [List.getElem?_eq_none hge] at g1; cases g1
  · cases h

theorem split_uniq {C1 C2 R1 R2 : List Nat} {i : Nat} (h : C1 ++ i :: R1 = C2 ++ i :: R2) (h1 : i ∉ C1) (h2 : i ∉ C2) : C1 = C2 ∧ R1 = R2 := by
  induction C1 generalizing C2 with
  | nil =>
    cases C2 with
    | nil => simp at h; exact ⟨rfl, h⟩
    | cons c C2 => simp at h; exact absurd h.1 (fun e => h2 (e ▸ .head _))
  | cons c C1 ih =>
    cases C2 with
    | nil => simp at h; exact absurd h.1 (fun e => h1 (e ▸ .head _))
    | cons c' C2 =>
      simp only [List.cons_append, List.cons.injEq] at h
      obtain ⟨rfl, h⟩ := h
      obtain ⟨q1, q2⟩ := ih h (fun hh => h1 (.tail _ hh)) (fun hh => h2 (.tail _ hh))
      exact ⟨by rw [q1], q2⟩

section
variable {ops : Array Oper} {bs ord : List Nat} {X : Nat → Nat} {na : Nat}


theorem Ctx.nodup (ctx : Ctx ops bs ord X na) {C R : List Nat} (h : ord = C ++ R) {i : Nat} (hC : i ∈ C) (hR : i ∈ R) : False := by
  obtain ⟨R1, R2, rfl⟩ := List.append_of_mem hR
  have := (ctx.split (C ++ R1) i R2 (by rw [h]; simp)).2.1
  exact this (List.mem_append_left _ hC)

theorem Ctx.nodup' (ctx : Ctx ops bs ord X na) {C R : List Nat} {i : Nat} (h : ord = C ++ i :: R) : i ∉ R := by
  intro hR
  exact ctx.nodup (C := C ++ [i]) (R := R) (by rw [h]; simp) (by simp) hR

theorem Ctx.lt (ctx : Ctx ops bs ord X na) {i : Nat} (h : i ∈ ord) : i < ops.toList.length := by
  obtain ⟨A, B, hh⟩ := List.append_of_mem h
  exact (ctx.split A i B hh).1

theorem Ctx.wr_uniq (ctx : Ctx ops bs ord X na) {i j t : Nat} (h1 : wr ops.toList i t) (h2 : wr ops.toList j t) : i = j := by
  obtain ⟨o, ho, hd⟩ := h1
  obtain ⟨q, hq, hdq⟩ := h2
  exact ctx.uniq i j o q t ho hq hd hdq

variable {ro : Bool} {base : Nat} {d0 dE : DS}

/-- the temporaries of the plan's own order -/
theorem canon_mix (ctx : Ctx ops bs ord X na) {C R : List Nat} {d : DS} (h : ord = C ++ R) (h1 : run E inv ro ops.toList base X C d0 = some d) (h2 : run E inv ro ops.toList base X R d = some dE) : Mix ops.toList C dE.s.tm d0.s.tm d.s.tm := by
  obtain ⟨a1, a2⟩ := run_tm C d0 d h1
  obtain ⟨b1, b2⟩ := run_tm R d dE h2
  refine ⟨a1, by rw [b1, a1], fun t ⟨i, hi, hw⟩ => (b2 t fun j hj hwj => ?_).symm, fun t hh => a2 t hh⟩
  have := ctx.wr_uniq hw hwj
  subst this
  exact ctx.nodup h hi hj

end

/-- what an early allocation left -/
def Pend (E : Env) (w0 : World) (base : Nat) (X : Nat → Nat) (i : Nat) (tm : List Value) (o : Oper) (m : Mp) (h : AH) (w : World) : Prop :=
  ∃ (ob : AObj) (mk : Nat → Value) (b : Nat) (x : Obj), (∀ h2, E.op (eval tm) o.op h2 = .val (mk h2.next) (h2.new ob)) ∧ m (base + X i) = some (b, 0) ∧ w0.heap.size ≤ b ∧ b < w.heap.size ∧ ¬ Held m h b ∧ w.heap[b]? = some x ∧ OR m 0 ob x ∧ m.sz b = cellCount x

theorem Pend.keep {w0 : World} {base : Nat} {X : Nat → Nat} {i : Nat} {tm : List Value} {o : Oper} {m' : Mp} {h' : AH} {w' : World} (hp : Pend E w0 base X i tm o m h w) (g : Goes m h w m' h' w') : Pend E w0 base X i tm o m' h' w' := by
  obtain ⟨ob, mk, b, x, h1, h2, h3, h4, h5, h6, h7, h8⟩ := hp
  refine ⟨ob, mk, b, x, h1, g.ext.at_ _ _ h2, h3, by have := g.size; omega, ?_, by rw [g.kept b h4 h5]; exact h6, h7.mono g.ext, by rw [g.ext.sz _ _ _ h2]; exact h8⟩
  intro hh
  rcases g.held b hh with q | q
  · omega
  · exact h5 q

structure Sim (P : Program) (E : Env) (inv : Inv) (ro : Bool) (ops : Array Oper) (bs ord : List Nat) (X : Nat → Nat) (na : Nat) (m0 : Mp) (h0 : AH) (w0 : World) (d0 dE : DS) (C R D : List Nat) (d : DS) (m : Mp) (w : World) (a : Act) : Prop where
  ord_eq : ord = C ++ R
  runC : run E inv ro ops.toList h0.next X C d0 = some d
  runR : run E inv ro ops.toList h0.next X R d = some dE
  sub : ∀ i ∈ C, i ∈ D
  lt : ∀ i ∈ D, i < ops.toList.length
  closed : ∀ i ∈ D, ∀ j, B bs i j → j ∈ D
  effs : ∀ e ∈ D, effAt ops.toList e = true → e ∈ C
  goes : Goes m0 h0 w0 m d.s.h w
  next : h0.next + na ≤ d.s.h.next
  tms : ∃ tmD, Mix ops.toList D dE.s.tm d0.s.tm tmD ∧ VRs m tmD a.tmps.toList
  df : DRs m d.s.df a.defers
  pend : ∀ i ∈ D, i ∉ C → ∀ C1 R1 di o, ord = C1 ++ i :: R1 → run E inv ro ops.toList h0.next X C1 d0 = some di → ops.toList[i]? = some o → isAlloc o = true → wanted ops.toList di.s.tm o.guard = true →
    Pend E w0 h0.next X i di.s.tm o m d.s.h w
  dist : ∀ i j b dd de, i ∈ D → i ∉ C → j ∈ D → j ∉ C → allocAt ops.toList i = true → allocAt ops.toList j = true → m (h0.next + X i) = some (b, dd) → m (h0.next + X j) = some (b, de) → i = j
  free : ∀ i, i < ops.toList.length → i ∉ D → allocAt ops.toList i = true → m (h0.next + X i) = none
  noget : ∀ i, i < ops.toList.length → i ∉ C → allocAt ops.toList i = true → d.s.h.get (h0.next + X i) = none ∧ ∀ b dd, m (h0.next + X i) = some (b, dd) → ¬ Held m d.s.h b

section
variable {ops : Array Oper} {bs ord : List Nat} {X : Nat → Nat} {na : Nat} {ro : Option Nat} {m0 : Mp} {h0 : AH} {w0 : World} {d0 dE d : DS} {C R D : List Nat} {a : Act}

/-- where an operation stands that the model comes to, and what it sees there -/
theorem peek (ctx : Ctx ops bs ord X na) (S : Sim P E inv ro.isSome ops bs ord X na m0 h0 w0 d0 dE C R D d m w a) {i : Nat} {o : Oper} (ho : ops.toList[i]? = some o) (hni : i ∉ D) (hB : ∀ j, B bs i j → j ∈ D) :
    ∃ R1 R2 di di', R = R1 ++ i :: R2 ∧ run E inv ro.isSome ops.toList h0.next X R1 d = some di ∧ (cdrawOne E inv ro.isSome ops.toList h0.next i (X i)).run di = some di' ∧ run E inv ro.isSome ops.toList h0.next X R2 di' = some dE ∧
      ord = (C ++ R1) ++ i :: R2 ∧ run E inv ro.isSome ops.toList h0.next X (C ++ R1) d0 = some di ∧
      (∀ tmD, Mix ops.toList D dE.s.tm d0.s.tm tmD → (∀ x ∈ o.op.operands.toList, eval di.s.tm x = eval tmD x) ∧ wanted ops.toList di.s.tm o.guard = wanted ops.toList tmD o.guard) ∧
      (∀ v, di'.s.tm = put di.s.tm o.dst v → ∀ t, o.dst = some t → dE.s.tm[t]? = if t < dE.s.tm.length then some v else none) := by
  have hlt : i < ops.toList.length := by
    rcases Nat.lt_or_ge i ops.toList.length with hh | hh
    · exact hh
    · rw [List.getElem?_eq_none hh] at ho; cases ho
  have hiR : i ∈ R := by
    have := ctx.cover i hlt
    rw [S.ord_eq] at this
    rcases List.mem_append.1 this with hh | hh
    · exact absurd (S.sub i hh) hni
    · exact hh
  obtain ⟨R1, R2, hR⟩ := List.append_of_mem hiR
  have hrun := S.runR
  rw [hR] at hrun
  obtain ⟨di, q1, q2⟩ := (run_append R1 (i :: R2) d dE).1 hrun
  obtain ⟨di', q3, q4⟩ := run_cons_some q2
  have hord : ord = (C ++ R1) ++ i :: R2 := by rw [S.ord_eq, hR]; simp
  have hCr : run E inv ro.isSome ops.toList h0.next X (C ++ R1) d0 = some di := (run_append C R1 d0 di).2 ⟨d, S.runC, q1⟩
  obtain ⟨_, hnC, hspl⟩ := ctx.split _ _ _ hord
  have mixC := canon_mix ctx hord hCr q2
  -- a temporary's writer stands on one side
  have side : ∀ t, (∀ j, wr ops.toList j t → j ≠ i → B bs i j ∨ B bs j i) → ((∃ j ∈ C ++ R1, wr ops.toList j t) ↔ ∃ j ∈ D, wr ops.toList j t) := by
    intro t hh
    constructor
    · rintro ⟨j, hj, hw⟩
      have hne : j ≠ i := by rintro rfl; exact hnC hj
      rcases hh j hw hne with hb | hb
      · exact ⟨j, hB j hb, hw⟩
      · exfalso
        obtain ⟨A, A', hA⟩ := List.append_of_mem hj
        have := (ctx.split A j (A' ++ i :: R2) (by rw [hord, hA]; simp)).2.2 i hlt hb
        exact hnC (by rw [hA]; exact List.mem_append_left _ this)
    · rintro ⟨j, hj, hw⟩
      have hne : j ≠ i := by rintro rfl; exact hni hj
      rcases hh j hw hne with hb | hb
      · exact ⟨j, hspl j (S.lt j hj) hb, hw⟩
      · exact absurd (S.closed j hj i hb) hni
  refine ⟨R1, R2, di, di', hR, q1, q3, q4, hord, hCr, ?_, ?_⟩
  · intro tmD mixD
    constructor
    · intro x hx
      refine eval_agree x fun t ht => ?_
      subst ht
      refine mixC.agree mixD (side t fun j ⟨q, hq, hdq⟩ hne => ?_)
      exact ctx.opnd i j o q t ho hq hdq (Ne.symm hne) hx
    · refine wanted_agree o.guard fun g want t hg hw => ?_
      have hBg := ctx.gd i o g want ho hg
      refine mixC.agree mixD (side t fun j hwj hne => ?_)
      have := ctx.wr_uniq hw hwj
      subst this
      exact .inl hBg
  · intro v hv t ht
    obtain ⟨b1, b2⟩ := run_tm R2 di' dE q4
    have hno : ∀ j ∈ R2, ¬ wr ops.toList j t := by
      intro j hj hwj
      have := ctx.wr_uniq ⟨o, ho, ht⟩ hwj
      subst this
      exact ctx.nodup' hord hj
    obtain ⟨p1, p2⟩ := put_get di.s.tm o.dst v
    rw [b2 t hno, hv, p2, if_pos ht, b1, hv, p1]

/-- a step that turns no abstract heap -/
theorem Sim.more (ctx : Ctx ops bs ord X na) (S : Sim P E inv ro.isSome ops bs ord X na m0 h0 w0 d0 dE C R D d m w a) {i : Nat} {o : Oper} (ho : ops.toList[i]? = some o) (hni : i ∉ D) (hB : ∀ j, B bs i j → j ∈ D)
    (hne : effAt ops.toList i = false) {m' : Mp} {w' : World} {v v' : Value} (g : Goes m d.s.h w m' d.s.h w') (hv : VR m' v v') {tmD : List Value} (mixD : Mix ops.toList D dE.s.tm d0.s.tm tmD) (hvr : VRs m tmD a.tmps.toList)
    (hT : ∀ t, o.dst = some t → dE.s.tm[t]? = if t < dE.s.tm.length then some v else none)
    (hnp : ∀ C1 R1 di, ord = C1 ++ i :: R1 → run E inv ro.isSome ops.toList h0.next X C1 d0 = some di → isAlloc o = true → wanted ops.toList di.s.tm o.guard = true → False) :
    Sim P E inv ro.isSome ops bs ord X na m0 h0 w0 d0 dE C R (i :: D) d m' w' (a.put o.dst v') := by
  have hlt : i < ops.toList.length := by
    rcases Nat.lt_or_ge i ops.toList.length with hh | hh
    · exact hh
    · rw [List.getElem?_eq_none hh] at ho; cases ho
  have hold : ∀ j, j < ops.toList.length → allocAt ops.toList j = true → m' (h0.next + X j) = m (h0.next + X j) := by
    intro j hj aj
    have := ctx.xlt j hj aj
    have := S.next
    exact g.old _ (by omega)
  refine ⟨S.ord_eq, S.runC, S.runR, fun j hj => .tail _ (S.sub j hj), ?_, ?_, ?_, S.goes.trans g, S.next, ⟨put tmD o.dst v, mixD.add ho hT, put_VRs (hvr.mono g.ext) hv⟩, by rw [put_defers]; exact S.df.mono g.ext, ?_, ?_, ?_, ?_⟩
  · intro j hj
    cases hj with
    | head => exact hlt
    | tail _ hj => exact S.lt j hj
  · intro j hj q hb
    cases hj with
    | head => exact .tail _ (hB q hb)
    | tail _ hj => exact .tail _ (S.closed j hj q hb)
  · intro e he hee
    cases he with
    | head => rw [hne] at hee; cases hee
    | tail _ he => exact S.effs e he hee
  · intro j hj hjC C1 R1 di o' h1 h2 h3 h4 h5
    cases hj with
    | head => rw [ho] at h3; cases h3; exact (hnp C1 R1 di h1 h2 h4 h5).elim
    | tail _ hj => exact (S.pend j hj hjC C1 R1 di o' h1 h2 h3 h4 h5).keep g
  · intro j k b dd de hj hjC hk hkC aj ak e1 e2
    have fr : ∀ b dd, m' (h0.next + X i) = some (b, dd) → allocAt ops.toList i = true → False := by
      intro b dd hb ai
      rw [hold i hlt ai, S.free i hlt hni ai] at hb; cases hb
    cases hj with
    | head => exact (fr b dd e1 aj).elim
    | tail _ hj =>
      cases hk with
      | head => exact (fr b de e2 ak).elim
      | tail _ hk =>
        rw [hold j (S.lt j hj) aj] at e1
        rw [hold k (S.lt k hk) ak] at e2
        exact S.dist j k b dd de hj hjC hk hkC aj ak e1 e2
  · intro j hj hjD aj
    rw [hold j hj aj]
    exact S.free j hj (fun hh => hjD (.tail _ hh)) aj
  · intro j hj hjC aj
    obtain ⟨n1, n2⟩ := S.noget j hj hjC aj
    refine ⟨n1, fun b dd hb hh => ?_⟩
    rw [hold j hj aj] at hb
    rcases g.held b hh with q | q
    · have := S.goes.rep.inside _ _ _ hb; omega
    · exact n2 b dd hb q

end

end Go.Ev
