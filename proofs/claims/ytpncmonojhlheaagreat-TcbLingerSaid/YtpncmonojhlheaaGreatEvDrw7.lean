/- A part of a big-step evaluator of the model's language, with the proof that what it comes to, the model comes to for every tape. No conditions. -/
import Derived.Test.YtpncmonojhlheaaGreatEvDrw6
namespace Go.Ev

variable {P : Program} {E : Env} {m : Mp} {h : AH} {w : World} {inv : Inv}

/-- which are listed -/
structure Lst (n : Nat) (listed : Array Bool) (D : List Nat) : Prop where
  size : listed.size = n
  val : ∀ j, j < n → listed[j]? = some (D.contains j)

theorem Lst.set {n : Nat} {listed : Array Bool} {D : List Nat} (hl : Lst n listed D) {i : Nat} (_ : i < n) : Lst n (listed.setIfInBounds i true) (i :: D) := by
  refine ⟨by simp [hl.size], fun j hj => ?_⟩
  rw [Array.getElem?_setIfInBounds]
  split
  · rename_i h; subst h; simp [hl.size, hj]
  · rename_i h
    rw [hl.val j hj]
    have : (i :: D).contains j = D.contains j := by
      rw [List.contains_cons]
      have : (j == i) = false := by simp; exact fun e => h e.symm
      rw [this]; simp
    rw [this]

def cnt (n : Nat) (D : List Nat) : Nat := ((List.range n).filter fun j => !D.contains j).length

theorem filt_le {p q : Nat → Bool} (h : ∀ j, q j = true → p j = true) : ∀ l : List Nat, (l.filter q).length ≤ (l.filter p).length := by
  intro l
  induction l with
  | nil => simp
  | cons x l ih =>
    simp only [List.filter_cons]
    cases hq : q x with
    | true => simp [h x hq, ih]
    | false =>
      simp only [Bool.false_eq_true, if_false]
      split
      · simp; omega
      · exact ih

theorem filt_lt {p q : Nat → Bool} (h : ∀ j, q j = true → p j = true) {i : Nat} (hp : p i = true) (hq : q i = false) : ∀ l : List Nat, i ∈ l → (l.filter q).length < (l.filter p).length := by
  intro l
  induction l with
  | nil => intro hh; cases hh
  | cons x l ih =>
    intro hh
    simp only [List.filter_cons]
    by_cases hx : x = i
    · subst hx
      rw [hp, hq]
      simp only [if_true, Bool.false_eq_true, if_false, List.length_cons]
      have := filt_le h l
      omega
    · have hl : i ∈ l := by
        cases hh with
        | head => exact absurd rfl hx
        | tail _ hh => exact hh
      have := ih hl
      cases hqx : q x with
      | true => simp [h x hqx]; omega
      | false =>
        simp only [Bool.false_eq_true, if_false]
        split
        · simp; omega
        · exact this

theorem cnt_lt {n : Nat} {D : List Nat} {i : Nat} (hi : i < n) (hD : i ∉ D) : cnt n (i :: D) < cnt n D := by
  refine filt_lt (i := i) (fun j hj => ?_) ?_ ?_ _ (List.mem_range.2 hi)
  · simp at hj ⊢; exact hj.2
  · simpa using hD
  · simp

theorem cnt_zero {n : Nat} {D : List Nat} (h : cnt n D = 0) {i : Nat} (hi : i < n) : i ∈ D := by
  unfold cnt at h
  have := List.eq_nil_of_length_eq_zero h
  rw [List.filter_eq_nil_iff] at this
  have := this i (List.mem_range.2 hi)
  simpa using this

theorem first_not {D : List Nat} : ∀ (l : List Nat), (∃ i ∈ l, i ∉ D) → ∃ A i B, l = A ++ i :: B ∧ (∀ x ∈ A, x ∈ D) ∧ i ∉ D := by
  intro l
  induction l with
  | nil => rintro ⟨i, hi, _⟩; cases hi
  | cons x l ih =>
    rintro ⟨i, hi, hn⟩
    by_cases hx : x ∈ D
    · have hil : i ∈ l := by
        cases hi with
        | head => exact absurd hx hn
        | tail _ hi => exact hi
      obtain ⟨A, j, B, h1, h2, h3⟩ := ih ⟨i, hil, hn⟩
      refine ⟨x :: A, j, B, by rw [h1]; rfl, fun y hy => ?_, h3⟩
      cases hy with
      | head => exact hx
      | tail _ hy => exact h2 y hy
    · exact ⟨[], x, l, rfl, fun y hy => (by cases hy), hx⟩

theorem ready_iff {ops : Array Oper} {listed : Array Bool} {D : List Nat} (hl : Lst ops.size listed D) (he : ∀ (i : Nat) (o : Oper), ops.toList[i]? = some o → ∀ e ∈ o.after.toList, Region.binds .any e = true → e.on < ops.size) (i : Nat) :
    i ∈ Region.ready .any ops listed ↔ ∃ o, ops[i]? = some o ∧ i < ops.size ∧ i ∉ D ∧ ∀ e ∈ o.after.toList, Region.binds .any e = true → e.on ∈ D := by
  unfold Region.ready
  rw [List.mem_filter, List.mem_range]
  constructor
  · rintro ⟨hi, hh⟩
    rw [Bool.and_eq_true] at hh
    obtain ⟨h1, h2⟩ := hh
    cases ho : ops[i]? with
    | none => rw [ho] at h2; simp at h2
    | some o =>
      rw [ho] at h2
      refine ⟨o, rfl, hi, ?_, fun e hee hb => ?_⟩
      · rw [Array.getD_eq_getD_getElem?, hl.val i hi] at h1
        simpa using h1
      · simp only [Option.map_some, Option.getD_some] at h2
        rw [← Array.all_toList, List.all_eq_true] at h2
        have := h2 e hee
        rw [hb] at this
        have hon := he i o (by rw [Array.getElem?_toList]; exact ho) e hee hb
        rw [Array.getD_eq_getD_getElem?, hl.val e.on hon] at this
        simpa using this
  · rintro ⟨o, ho, hi, hD, hh⟩
    refine ⟨hi, ?_⟩
    rw [Bool.and_eq_true]
    constructor
    · rw [Array.getD_eq_getD_getElem?, hl.val i hi]; simpa using hD
    · rw [ho]
      simp only [Option.map_some, Option.getD_some]
      rw [← Array.all_toList, List.all_eq_true]
      intro e hee
      cases hb : Region.binds .any e with
      | false => rfl
      | true =>
        have hon := he i o (by rw [Array.getElem?_toList]; exact ho) e hee hb
        rw [Array.getD_eq_getD_getElem?, hl.val e.on hon]
        simpa using hh e hee hb

section
variable {ops : Array Oper} {bs ord : List Nat} {X : Nat → Nat} {na : Nat} {ro : Option Nat} {m0 : Mp} {h0 : AH} {w0 : World} {d0 dE : DS}

/-- all done -/
theorem sim_end (ctx : Ctx ops bs ord X na) {C R D : List Nat} {d : DS} {a : Act} (S : Sim P E inv ro.isSome ops bs ord X na m0 h0 w0 d0 dE C R D d m w a) (hall : ∀ i, i < ops.toList.length → i ∈ D) :
    Goes m0 h0 w0 m dE.s.h w ∧ SR m dE.s a w := by
  have hin : ∀ r ∈ R, r ∈ D ∧ effAt ops.toList r = false := by
    intro r hr
    have hrord : r ∈ ord := by rw [S.ord_eq]; exact List.mem_append_right _ hr
    have hrD := hall r (ctx.lt hrord)
    refine ⟨hrD, ?_⟩
    cases he : effAt ops.toList r with
    | false => rfl
    | true => exact (ctx.nodup S.ord_eq (S.effs r hrD he) hr).elim
  obtain ⟨d1, S1⟩ := sim_adopts (R2 := []) ctx R C d hin (by simpa using S)
  have := S1.runR
  rw [run_nil] at this
  cases this
  refine ⟨S1.goes, ?_, S1.df, S1.goes.rep⟩
  obtain ⟨tmD, mixD, hvr⟩ := S1.tms
  have mixE := canon_mix ctx S1.ord_eq S1.runC S1.runR
  have : tmD = dE.s.tm := by
    apply List.ext_getElem?
    intro t
    refine mixD.agree mixE ?_
    constructor
    · rintro ⟨i, hi, hw⟩
      refine ⟨i, ?_, hw⟩
      have := ctx.cover i (S1.lt i hi)
      rw [S1.ord_eq] at this
      simpa using this
    · rintro ⟨i, hi, hw⟩
      exact ⟨i, S1.sub i hi, hw⟩
  rw [← this]; exact hvr

theorem sim_loop (hE : E.Types P) (hi : InvOK P E inv) (ctx : Ctx ops bs ord X na) (hok : ∀ o ∈ ops.toList, okOp o.op = true) (hd0 : d0.hs.length = 1) {b : Frame} (hro : RoR m0 ro b.roundOf) (k : List Item) (cs : List Frame) :
    ∀ (fuel t : Nat) (listed : Array Bool) (C R D : List Nat) (d : DS) (m : Mp) (w : World) (a : Act), Sim P E inv ro.isSome ops bs ord X na m0 h0 w0 d0 dE C R D d m w a → (∃ H, d.hs = H ++ [d.s.h]) → Lst ops.size listed D → cnt ops.size D ≤ fuel →
    ∃ m' w' a', Goes m0 h0 w0 m' dE.s.h w' ∧ SR m' dE.s a' w' ∧ Steps P (lone (b.atR a (.inRegion ops (Region.linearise.go .any ops fuel t listed []) :: k)) cs w) (lone (b.atR a' k) cs w') := by
  have hsz : ops.toList.length = ops.size := by simp
  have hedge : ∀ (i : Nat) (o : Oper), ops.toList[i]? = some o → ∀ e ∈ o.after.toList, Region.binds .any e = true → e.on < ops.size := by
    intro i o ho e he hb; have := ctx.edges i o ho e he hb; omega
  intro fuel
  induction fuel with
  | zero =>
    intro t listed C R D d m w a S hst hl hc
    obtain ⟨g, sr⟩ := sim_end ctx S fun i hi => cnt_zero (by omega) (by omega : i < ops.size)
    exact ⟨m, w, a, g, sr, .one stepR_region_end⟩
  | succ fuel ih =>
    intro t listed C R D d m w a S hst hl hc
    simp only [Region.linearise.go]
    change ∃ m' w' a', Goes m0 h0 w0 m' dE.s.h w' ∧ SR m' dE.s a' w' ∧ Steps P (lone (b.atR a (.inRegion ops (match (Region.ready .any ops listed)[t % (Region.ready .any ops listed).length]? with
      | some i => Region.linearise.go .any ops fuel (t / (Region.ready .any ops listed).length) (listed.setIfInBounds i true) [i]
      | none => [].reverse) :: k)) cs w) (lone (b.atR a' k) cs w')
    cases hpick : (Region.ready .any ops listed)[t % (Region.ready .any ops listed).length]? with
    | none =>
      have hnil : Region.ready .any ops listed = [] := by
        cases hr : Region.ready .any ops listed with
        | nil => rfl
        | cons x xs =>
          rw [hr] at hpick
          have hlt : t % (x :: xs).length < (x :: xs).length := Nat.mod_lt _ (by simp)
          simp at hpick
          simp at hlt
          omega
      have hall : ∀ i, i < ops.toList.length → i ∈ D := by
        intro i hilt
        rcases Classical.em (i ∈ D) with hh | hh
        · exact hh
        · exfalso
          obtain ⟨A, j, B', h1, h2, h3⟩ := first_not ord ⟨i, ctx.cover i hilt, hh⟩
          obtain ⟨q1, q2, q3⟩ := ctx.split A j B' h1
          have hoj : ∃ o, ops[j]? = some o := ⟨ops[j], Array.getElem?_eq_getElem (by omega)⟩
          obtain ⟨o, ho⟩ := hoj
          have hmem : j ∈ Region.ready .any ops listed := (ready_iff hl hedge j).2 ⟨o, ho, by omega, h3, fun e he hb => h2 _ (q3 _ (by have := hedge j o (by rw [Array.getElem?_toList]; exact ho) e he hb; omega) (ctx.good.inn j o (by rw [Array.getElem?_toList]; exact ho) e he hb))⟩
          rw [hnil] at hmem; cases hmem
      obtain ⟨g, sr⟩ := sim_end ctx S hall
      exact ⟨m, w, a, g, sr, .one stepR_region_end⟩
    | some i =>
      simp only
      rw [linearise_go_acc, List.reverse_singleton, List.singleton_append]
      obtain ⟨o, ho, hilt, hni, hedges⟩ := (ready_iff hl hedge i).1 (List.mem_of_getElem? hpick)
      have hoL : ops.toList[i]? = some o := by rw [Array.getElem?_toList]; exact ho
      have hB : ∀ j, B bs i j → j ∈ D := by
        intro j hb
        obtain ⟨e, h1, h2, h3⟩ := ctx.good.out i o hoL j hb
        have hon := hedges e h1 h2
        rcases h3 with h3 | h3
        · rw [← h3]; exact hon
        · exact S.closed _ hon j h3
      have hoki := hok o (List.mem_of_getElem? hoL)
      have hcnt : cnt ops.size (i :: D) ≤ fuel := by have := cnt_lt hilt hni; omega
      cases hie : effAt ops.toList i with
      | false =>
        obtain ⟨m1, w1, a1, S1, st1⟩ := sim_step hE ctx S hst hd0 ho hoki hni hB hie b (Region.linearise.go .any ops fuel (t / (Region.ready .any ops listed).length) (listed.setIfInBounds i true) []) k cs
        obtain ⟨m2, w2, a2, g2, sr2, st2⟩ := ih _ _ C R (i :: D) d m1 w1 a1 S1 hst (hl.set hilt) hcnt
        exact ⟨m2, w2, a2, g2, sr2, Steps.trans st1 st2⟩
      | true =>
        obtain ⟨C', R', d', m1, w1, a1, S1, hst', st1⟩ := sim_eff hE hi ctx S ho hoki hni hB hie (hro.mono S.goes.ext) (Region.linearise.go .any ops fuel (t / (Region.ready .any ops listed).length) (listed.setIfInBounds i true) []) k cs
        obtain ⟨m2, w2, a2, g2, sr2, st2⟩ := ih _ _ C' R' (i :: D) d' m1 w1 a1 S1 hst' (hl.set hilt) hcnt
        exact ⟨m2, w2, a2, g2, sr2, Steps.trans st1 st2⟩

end

theorem draw_ok (hE : E.Types P) (hmix : P.follows .mixedOrders = true) (inv : Inv) (hi : InvOK P E inv) : DrawOK P E inv := by
  intro fn ro id ops hok s ax s' e m w a b hb hro hs k cs
  simp only at e
  cases hc : (cdraw E inv ro.isSome ops.toList).run s with
  | none => rw [hc] at e; cases e
  | some s1 =>
    rw [hc] at e
    cases e
    unfold cdraw at hc
    split at hc
    · rename_i p hp
      obtain ⟨ord, X, hsteps, ctx⟩ := plan_ctx hp
      simp only at hc
      split at hc
      · rename_i dE hdE
        cases hc
        rw [hsteps] at hdE
        have hrun : run E inv ro.isSome ops.toList s.h.next X ord ⟨⟨s.tm, s.df, ⟨s.h.tr, s.h.next + p.allocs⟩⟩, [⟨s.h.tr, s.h.next + p.allocs⟩]⟩ = some dE := hdE
        have hr0 : Rep m s.h w.drew := drew_rep hs.rep
        have g0 := Goes.drew hs.rep
        have gr := Goes.reserve hr0 p.allocs
        have hbn : b.fn = fn := hb
        have htl := (run_tm _ _ _ hrun).1
        have hsim : Sim P E inv ro.isSome ops (befores ops.toList []) ord X p.allocs m s.h w.drew ⟨⟨s.tm, s.df, ⟨s.h.tr, s.h.next + p.allocs⟩⟩, [⟨s.h.tr, s.h.next + p.allocs⟩]⟩ dE [] ord [] ⟨⟨s.tm, s.df, ⟨s.h.tr, s.h.next + p.allocs⟩⟩, [⟨s.h.tr, s.h.next + p.allocs⟩]⟩ m w.drew a := by
          refine ⟨rfl, rfl, hrun, fun i hi => (by cases hi), fun i hi => (by cases hi), fun i hi => (by cases hi), fun i hi => (by cases hi), gr, Nat.le_refl _, ⟨s.tm, ⟨rfl, htl, fun t ⟨i, hi, _⟩ => (by cases hi), fun t _ => rfl⟩, hs.tm⟩, hs.df, fun i hi => (by cases hi), fun i j b dd de hi => (by cases hi), fun i hi _ _ => (hr0.fresh _ (Nat.le_add_right _ _)).1, fun i hi _ _ => ⟨(hr0.fresh _ (Nat.le_add_right _ _)).2, fun b dd hb hh => ?_⟩⟩
          rw [(hr0.fresh _ (Nat.le_add_right _ _)).1] at hb
          cases hb
        obtain ⟨m2, w2, a2, g2, sr2, st2⟩ := sim_loop hE hi ctx hok rfl (b := b) hro k cs ops.size (w.tape w.drawn (.order b.fn id)) (Array.replicate ops.size false) [] ord [] _ m w.drew a hsim ⟨[], rfl⟩
          ⟨by simp, fun j hj => by simp [hj]⟩ (by unfold cnt; exact Nat.le_trans (List.length_filter_le _ _) (by simp))
        refine ⟨m2, w2, a2, g0.trans g2, sr2, ?_⟩
        have hstep := stepR_region_draw (P := P) (b := b) (a := a) (k := k) (cs := cs) (w := w) (ops := ops) (id := id)
        have hsched : Region.schedule (P.follows .mixedOrders) ops (w.tape w.drawn (.order b.fn id)) = Region.linearise.go .any ops ops.size (w.tape w.drawn (.order b.fn id)) (Array.replicate ops.size false) [] := by
          simp only [Region.schedule, hmix, Bool.true_or, if_true]
          rfl
        rw [hsched] at hstep
        exact .head hstep st2
      · cases hc
    · cases hc

/-- what the evaluator says of a call, the model does -/
theorem cinv_ok (hE : E.Types P) (hC : E.Cons P) (hmix : P.follows .mixedOrders = true) (n : Nat) : InvOK P E (cinv E n) := cinv_sound hE hC (fun inv hi => draw_ok hE hmix inv hi) n n

/-- a call of a function -/
theorem calls_of_eval (hE : E.Types P) (hC : E.Cons P) (hmix : P.follows .mixedOrders = true) {n f : Nat} {args : List Value} {v : Value} {h' : AH} (e : (cfun E (cinv E n) n f).run args h = some (v, h')) {m : Mp} {w : World} {a' : Array Value} (ha : VRs m args a'.toList) (hr : Rep m h w) :
    Calls P f a' w fun en w' => ∃ m' v', en = .returned v' ∧ VR m' v v' ∧ Goes m h w m' h' w' := by
  obtain ⟨_, hf⟩ := cfun_sound hE (cinv_ok hE hC hmix n) (draw_ok hE hmix _ (cinv_ok hE hC hmix n)) e ha hr
  intro cs
  obtain ⟨fr, m', w', v', st, h1, h2, h3, h4, ⟨fn, h5, h6⟩, g, hv⟩ := hf .normal cs
  exact ⟨.returned v', w', fr, ⟨m', v', rfl, hv, g⟩, st, h1, h2, h3, h4, fn, h1 ▸ h5, h6⟩

end Go.Ev
