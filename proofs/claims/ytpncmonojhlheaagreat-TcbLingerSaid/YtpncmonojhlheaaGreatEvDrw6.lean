/- A part of a big-step evaluator of the model's language, with the proof that what it comes to, the model comes to for every tape. No conditions. -/
import Derived.Test.YtpncmonojhlheaaGreatEvDrw5
import Derived.Orders
namespace Go.Ev

variable {P : Program} {E : Env} {m : Mp} {h : AH} {w : World} {inv : Inv}

theorem Goes.reserve (hr : Rep m h w) (na : Nat) : Goes m h w m ⟨h.tr, h.next + na⟩ w := by
  have hg : ∀ n, AH.get ⟨h.tr, h.next + na⟩ n = h.get n := fun _ => rfl
  refine ⟨.refl m, ⟨?_, hr.inside, fun n o e => hr.obj n o e, fun n n' o o' b d d' e e' => hr.apart n n' o o' b d d' e e', fun n o b d c e fz g => hr.sized n o b d c e fz g⟩, fun b hb => .inr hb, Nat.le_refl _, fun _ _ _ => rfl, Nat.le_add_right _ _, fun _ _ => rfl, fun _ _ _ _ _ h => .inr ⟨_, _, h⟩, rfl, rfl, rfl, fun _ _ _ _ e _ => ⟨e, rfl⟩⟩
  intro n hn
  exact hr.fresh n (Nat.le_trans (Nat.le_add_right _ _) hn)

section
variable {ops : Array Oper} {bs ord : List Nat} {X : Nat → Nat} {na : Nat} {ro : Option Nat} {m0 : Mp} {h0 : AH} {w0 : World} {d0 dE d : DS} {C R D : List Nat} {a : Act}

/-- the plan's next step, which the model has behind it -/
theorem sim_adopt (ctx : Ctx ops bs ord X na) {r : Nat} {R' : List Nat} (S : Sim P E inv ro.isSome ops bs ord X na m0 h0 w0 d0 dE C (r :: R') D d m w a) (hrD : r ∈ D) (hne : effAt ops.toList r = false) :
    ∃ d', Sim P E inv ro.isSome ops bs ord X na m0 h0 w0 d0 dE (C ++ [r]) R' D d' m w a := by
  obtain ⟨d', q1, q2⟩ := run_cons_some S.runR
  obtain ⟨o, ho, hc⟩ := draw_cases q1
  obtain ⟨hrlt, hrC, _⟩ := ctx.split C r R' S.ord_eq
  have hdf : d'.s.df = d.s.df := ((draw_hs q1).1 hne).2
  have hrun : run E inv ro.isSome ops.toList h0.next X (C ++ [r]) d0 = some d' := (run_append C [r] d0 d').2 ⟨d, S.runC, by rw [run_cons, q1]; rfl⟩
  have core : Goes m0 h0 w0 m d'.s.h w → d'.s.h.next = d.s.h.next → (∀ c, Held m d'.s.h c → Held m d.s.h c ∨ (allocAt ops.toList r = true ∧ ∃ dd, m (h0.next + X r) = some (c, dd))) →
      (∀ n, n ≠ h0.next + X r ∨ allocAt ops.toList r = false → d'.s.h.get n = d.s.h.get n) → ∃ d', Sim P E inv ro.isSome ops bs ord X na m0 h0 w0 d0 dE (C ++ [r]) R' D d' m w a := by
    intro F1 F2 F3 F4
    refine ⟨d', ⟨by rw [S.ord_eq]; simp, hrun, q2, ?_, S.lt, S.closed, fun e he hee => List.mem_append_left _ (S.effs e he hee), F1, by rw [F2]; exact S.next, S.tms, by rw [hdf]; exact S.df, ?_, ?_, S.free, ?_⟩⟩
    · intro i hi
      rcases List.mem_append.1 hi with hi | hi
      · exact S.sub i hi
      · simp at hi; subst hi; exact hrD
    · intro i hi hiC C1 R1 di o' h1 h2 h3 h4 h5
      have hiC' : i ∉ C := fun hh => hiC (List.mem_append_left _ hh)
      have hir : i ≠ r := fun hh => hiC (by rw [hh]; simp)
      obtain ⟨ob, mk, b, x, g1, g2, g3, g4, g5, g6, g7, g8⟩ := S.pend i hi hiC' C1 R1 di o' h1 h2 h3 h4 h5
      refine ⟨ob, mk, b, x, g1, g2, g3, g4, fun hh => ?_, g6, g7, g8⟩
      rcases F3 b hh with q | ⟨ar, dd, q⟩
      · exact g5 q
      · exact hir (S.dist i r b 0 dd hi hiC' hrD hrC (by simp only [allocAt, h3]; exact h4) ar g2 q)
    · intro i j b dd de hi hiC hj hjC ai aj e1 e2
      exact S.dist i j b dd de hi (fun hh => hiC (List.mem_append_left _ hh)) hj (fun hh => hjC (List.mem_append_left _ hh)) ai aj e1 e2
    · intro i hi hiC ai
      have hiC' : i ∉ C := fun hh => hiC (List.mem_append_left _ hh)
      have hir : i ≠ r := fun hh => hiC (by rw [hh]; simp)
      obtain ⟨n1, n2⟩ := S.noget i hi hiC' ai
      constructor
      · rw [F4]
        · exact n1
        · cases ar : allocAt ops.toList r with
          | false => exact .inr rfl
          | true => exact .inl fun hh => hir (ctx.xalloc i r hi hrlt ai ar (by omega))
      · intro b dd hb hh
        rcases F3 b hh with q | ⟨ar, de, q⟩
        · exact n2 b dd hb q
        · by_cases hiD : i ∈ D
          · exact hir (S.dist i r b dd de hiD hiC' hrD hrC ai ar hb q)
          · rw [S.free i hi hiD ai] at hb; cases hb
  have same : d'.s.h = d.s.h → ∃ d', Sim P E inv ro.isSome ops bs ord X na m0 h0 w0 d0 dE (C ++ [r]) R' D d' m w a := by
    intro hh
    exact core (by rw [hh]; exact S.goes) (by rw [hh]) (fun c hc => .inl (by rw [hh] at hc; exact hc)) (fun n _ => by rw [hh])
  rcases hc with ⟨hw, e⟩ | ⟨hw, e⟩
  · rcases drawn1_cases e with ⟨hcl, v, hv, he⟩ | ⟨hcl, s', hs, he⟩ | ⟨hcl, v, h1, hv, he⟩ | ⟨hcl, v, h1, hv, he⟩
    · exact same (by rw [he])
    · have : effAt ops.toList r = true := by simp only [effAt, ho, isEff, hcl]
      rw [hne] at this; cases this
    · have hal : isAlloc o = true := by simp only [isAlloc, hcl]
      have ar : allocAt ops.toList r = true := by simp only [allocAt, ho]; exact hal
      obtain ⟨ob, mk, b, x, g1, g2, g3, g4, g5, g6, g7, g8⟩ := S.pend r hrD hrC C R' d o S.ord_eq S.runC ho hal hw
      rw [g1] at hv
      have hh1 : h1 = AH.new ⟨d.s.h.tr, h0.next + X r⟩ ob := by cases hv; rfl
      have hheap : d'.s.h = d.s.h.put (h0.next + X r) ob := by rw [he, hh1]; rfl
      have hlt : h0.next + X r < d.s.h.next := by have := ctx.xlt r hrlt ar; have := S.next; omega
      refine core (by rw [hheap]; exact S.goes.adopt hlt g2 g3 g5 g6 g7 g8) (by rw [hheap]; rfl) ?_ ?_
      · rintro c ⟨n, q, dd, e1, e2⟩
        rw [hheap, AH.get_put] at e1
        split at e1
        · rename_i hn; subst hn; exact .inr ⟨ar, dd, e2⟩
        · exact .inl ⟨n, q, dd, e1, e2⟩
      · intro n hn
        rw [hheap, AH.get_put, if_neg]
        rcases hn with hn | hn
        · exact hn
        · rw [ar] at hn; cases hn
    · exact same (by rw [he])
  · exact same (by rw [e])

theorem sim_adopts (ctx : Ctx ops bs ord X na) {R2 : List Nat} : ∀ (R1 C : List Nat) (d : DS), (∀ r ∈ R1, r ∈ D ∧ effAt ops.toList r = false) → Sim P E inv ro.isSome ops bs ord X na m0 h0 w0 d0 dE C (R1 ++ R2) D d m w a →
    ∃ d', Sim P E inv ro.isSome ops bs ord X na m0 h0 w0 d0 dE (C ++ R1) R2 D d' m w a := by
  intro R1
  induction R1 with
  | nil => intro C d _ S; exact ⟨d, by simpa using S⟩
  | cons r R1 ih =>
    intro C d hh S
    obtain ⟨d', S'⟩ := sim_adopt ctx S (hh r (.head _)).1 (hh r (.head _)).2
    obtain ⟨d2, S2⟩ := ih (C ++ [r]) d' (fun q hq => hh q (.tail _ hq)) S'
    exact ⟨d2, by simpa using S2⟩

/-- an effect -/
theorem sim_eff (hE : E.Types P) (hi : InvOK P E inv) (ctx : Ctx ops bs ord X na) (S0 : Sim P E inv ro.isSome ops bs ord X na m0 h0 w0 d0 dE C R D d m w a) {i : Nat} {o : Oper} (ho : ops[i]? = some o)
    (hok : okOp o.op = true) (hni : i ∉ D) (hB : ∀ j, B bs i j → j ∈ D) (hie : effAt ops.toList i = true) {b : Frame} (hro : RoR m ro b.roundOf) (rest : List Nat) (k : List Item) (cs : List Frame) :
    ∃ C' R' d' m' w' a', Sim P E inv ro.isSome ops bs ord X na m0 h0 w0 d0 dE C' R' (i :: D) d' m' w' a' ∧ (∃ H, d'.hs = H ++ [d'.s.h]) ∧ Steps P (lone (b.atR a (.inRegion ops (i :: rest) :: k)) cs w) (lone (b.atR a' (.inRegion ops rest :: k)) cs w') := by
  have hoL : ops.toList[i]? = some o := by rw [Array.getElem?_toList]; exact ho
  have hlt : i < ops.toList.length := by
    rcases Nat.lt_or_ge i ops.toList.length with hh | hh
    · exact hh
    · rw [List.getElem?_eq_none hh] at hoL; cases hoL
  obtain ⟨R1, R2, _, _, hR, _, _, _, hord, _, _, _⟩ := peek ctx S0 hoL hni hB
  have hnC := (ctx.split _ _ _ hord).2.1
  -- nothing but what it asks for stands ahead of it
  have hnoeff : ∀ r ∈ R1, effAt ops.toList r = false := by
    intro r hr
    cases hre : effAt ops.toList r with
    | false => rfl
    | true =>
      exfalso
      have hne : i ≠ r := by rintro rfl; exact hnC (List.mem_append_right _ hr)
      have hrord : r ∈ ord := by rw [hord]; exact List.mem_append_left _ (List.mem_append_right _ hr)
      rcases ctx.two i r hlt (ctx.lt hrord) hie hre hne with hb | hb
      · have := S0.effs r (hB r hb) hre
        exact ctx.nodup S0.ord_eq this (by rw [hR]; exact List.mem_append_left _ hr)
      · obtain ⟨A, A', hA⟩ := List.append_of_mem hr
        have := (ctx.split (C ++ A) r (A' ++ i :: R2) (by rw [hord, hA]; simp)).2.2 i hlt hb
        refine hnC ?_
        rw [hA]
        rcases List.mem_append.1 this with q | q
        · exact List.mem_append_left _ q
        · exact List.mem_append_right _ (List.mem_append_left _ q)
  have hin : ∀ r ∈ R1, r ∈ D ∧ effAt ops.toList r = false := by
    intro r hr
    refine ⟨?_, hnoeff r hr⟩
    obtain ⟨A, A', hA⟩ := List.append_of_mem hr
    rcases ctx.late (C ++ A) r (A' ++ i :: R2) (by rw [hord, hA]; simp) with q | q
    · rw [hnoeff r hr] at q; cases q
    · refine hB r (q i ?_)
      have : ∀ l : List Nat, (∀ r ∈ l, effAt ops.toList r = false) → (l ++ i :: R2).find? (effAt ops.toList) = some i := by
        intro l
        induction l with
        | nil => intro _; simp [hie]
        | cons x l ih =>
          intro hh
          rw [List.cons_append, List.find?_cons, hh x (.head _)]
          exact ih fun r hr => hh r (.tail _ hr)
      exact this A' fun r hr => hnoeff r (by rw [hA]; simp [hr])
  obtain ⟨d1, S⟩ := sim_adopts ctx R1 C d hin (by rw [← hR]; exact S0)
  clear S0
  obtain ⟨R1', R2', di, di', hR', p1, p2, p3, hord', hCr, hpk, hT⟩ := peek ctx S hoL hni hB
  have : R1' = [] := by
    cases R1' with
    | nil => rfl
    | cons x l =>
      simp only [List.cons_append, List.cons.injEq] at hR'
      have := (ctx.split _ _ _ hord').2.1
      rw [← hR'.1] at this
      exact absurd (List.mem_append_right _ (.head _)) this
  subst this
  rw [run_nil] at p1
  cases p1
  simp only [List.nil_append, List.cons.injEq, true_and] at hR'
  subst hR'
  obtain ⟨tmD, mixD, hvr⟩ := S.tms
  obtain ⟨hev, hwd⟩ := hpk tmD mixD
  have hcong : ∀ h, E.op (eval tmD) o.op h = E.op (eval d1.s.tm) o.op h := fun h => op_congr _ _ fun x hx => (hev x hx).symm
  have hiC : i ∉ C ++ R1 := fun hh => hni (S.sub i hh)
  have hrun : run E inv ro.isSome ops.toList h0.next X ((C ++ R1) ++ [i]) d0 = some di' := (run_append (C ++ R1) [i] d0 di').2 ⟨d1, S.runC, by rw [run_cons, p2]; rfl⟩
  -- what is common
  have core : ∀ m' w' a' v, Goes m d1.s.h w m' di'.s.h w' → di'.s.tm = put d1.s.tm o.dst v → VRs m' (put tmD o.dst v) a'.tmps.toList → DRs m' di'.s.df a'.defers →
      Sim P E inv ro.isSome ops bs ord X na m0 h0 w0 d0 dE ((C ++ R1) ++ [i]) R2 (i :: D) di' m' w' a' := by
    intro m' w' a' v g htm hv hdf
    have hold : ∀ j, j < ops.toList.length → allocAt ops.toList j = true → m' (h0.next + X j) = m (h0.next + X j) := by
      intro j hj aj
      have := ctx.xlt j hj aj
      have := S.next
      exact g.old _ (by omega)
    have hna : allocAt ops.toList i = true → False := by
      intro hh
      simp only [allocAt, effAt, hoL] at hh hie
      have h1 := isAlloc_iff.1 hh
      have h2 := isEff_iff.1 hie
      rw [h1] at h2; cases h2
    refine ⟨by rw [S.ord_eq]; simp, hrun, p3, ?_, ?_, ?_, ?_, S.goes.trans g, Nat.le_trans S.next g.next, ⟨put tmD o.dst v, mixD.add hoL (hT v htm), hv⟩, hdf, ?_, ?_, ?_, ?_⟩
    · intro j hj
      rcases List.mem_append.1 hj with hj | hj
      · exact .tail _ (S.sub j hj)
      · simp at hj; subst hj; exact .head _
    · intro j hj
      cases hj with
      | head => exact hlt
      | tail _ hj => exact S.lt j hj
    · intro j hj q hb
      cases hj with
      | head => exact .tail _ (hB q hb)
      | tail _ hj => exact .tail _ (S.closed j hj q hb)
    · intro e he hee
      cases he with
      | head => simp
      | tail _ he => exact List.mem_append_left _ (S.effs e he hee)
    · intro j hj hjC C1 R1' di2 o' h1 h2 h3 h4 h5
      have hjC' : j ∉ C ++ R1 := fun hh => hjC (List.mem_append_left _ hh)
      cases hj with
      | head => exact absurd (List.mem_append_right _ (.head _)) hjC
      | tail _ hj => exact (S.pend j hj hjC' C1 R1' di2 o' h1 h2 h3 h4 h5).keep g
    · intro j q b dd de hj hjC hq hqC aj aq e1 e2
      cases hj with
      | head => exact (hna aj).elim
      | tail _ hj =>
        cases hq with
        | head => exact (hna aq).elim
        | tail _ hq =>
          rw [hold j (S.lt j hj) aj] at e1
          rw [hold q (S.lt q hq) aq] at e2
          exact S.dist j q b dd de hj (fun hh => hjC (List.mem_append_left _ hh)) hq (fun hh => hqC (List.mem_append_left _ hh)) aj aq e1 e2
    · intro j hj hjD aj
      rw [hold j hj aj]
      exact S.free j hj (fun hh => hjD (.tail _ hh)) aj
    · intro j hj hjC aj
      have hjC' : j ∉ C ++ R1 := fun hh => hjC (List.mem_append_left _ hh)
      obtain ⟨n1, n2⟩ := S.noget j hj hjC' aj
      have nh : ∀ b dd, m' (h0.next + X j) = some (b, dd) → ¬ Held m' di'.s.h b := by
        intro b dd hb hh
        rw [hold j hj aj] at hb
        rcases g.held b hh with q | q
        · have := S.goes.rep.inside _ _ _ hb; omega
        · exact n2 b dd hb q
      refine ⟨?_, nh⟩
      cases hg : di'.s.h.get (h0.next + X j) with
      | none => rfl
      | some q =>
        obtain ⟨b', dd', x', e1, e2, e3⟩ := g.rep.obj _ _ hg
        exact (nh b' dd' e1 ⟨_, _, _, hg, e1⟩).elim
  have hstage : ∃ H, di'.hs = H ++ [di'.s.h] := ⟨_, (draw_hs p2).2 hie⟩
  obtain ⟨o', ho', hc⟩ := draw_cases p2
  rw [hoL] at ho'; cases ho'
  rcases hc with ⟨hw, e⟩ | ⟨hw, e⟩
  · rcases drawn1_cases e with ⟨hcl, v, hv, he⟩ | ⟨hcl, s', hs, he⟩ | ⟨hcl, v, h1, hv, he⟩ | ⟨hcl, v, h1, hv, he⟩
    · have := isEff_iff.1 (by simpa only [effAt, hoL] using hie); rw [hcl] at this; cases this
    · obtain ⟨v, ht1, ht2⟩ := after1_tm hs
      have hs2 := ht2 tmD
      rw [← hcong] at hs2
      have hsr : SR m ⟨tmD, d1.s.df, d1.s.h⟩ a w := ⟨hvr, S.df, S.goes.rep⟩
      obtain ⟨m', w', a', g, sr, st⟩ := after_sound (b := b) (rest := rest) (k := k) (cs := cs) hE hi ho hok hsr hro (by rw [← hwd]; exact hw) hs2
      refine ⟨_, _, di', m', w', a', core m' w' a' v (by rw [he]; exact g) (by rw [he]; exact ht1) sr.tm (by rw [he]; exact sr.df), hstage, st⟩
    · have := isEff_iff.1 (by simpa only [effAt, hoL] using hie); rw [hcl] at this; cases this
    · have := isEff_iff.1 (by simpa only [effAt, hoL] using hie); rw [hcl] at this; cases this
  · have hwA : Region.wanted o (yielded ops a.tmps) = false := by rw [← wanted_eq hvr o, ← hwd]; exact hw
    refine ⟨_, _, di', m, w, a.put o.dst undef, core m w _ undef (by rw [e]; exact .refl S.goes.rep) (by rw [e]) (put_VRs hvr (VR.undef m)) (by rw [put_defers, e]; exact S.df), hstage, .one (step_unwanted ho hwA)⟩

end

end Go.Ev
