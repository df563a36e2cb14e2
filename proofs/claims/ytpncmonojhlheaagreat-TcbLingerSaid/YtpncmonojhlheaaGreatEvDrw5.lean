/- A part of a big-step evaluator of the model's language, with the proof that what it comes to, the model comes to for every tape. No conditions. -/
import Derived.Test.YtpncmonojhlheaaGreatEvDrw4
namespace Go.Ev

variable {P : Program} {E : Env} {m : Mp} {h : AH} {w : World} {inv : Inv}

theorem takeWhile_le (p : Nat → Bool) : ∀ (A B : List Nat), (∀ f r, B = f :: r → p f = false) → ((A ++ B).takeWhile p).length ≤ A.length := by
  intro A
  induction A with
  | nil =>
    intro B hB
    cases B with
    | nil => simp
    | cons f r => simp [hB f r rfl]
  | cons x A ih =>
    intro B hB
    rw [List.cons_append, List.takeWhile_cons]
    split
    · simp only [List.length_cons]; have := ih B hB; omega
    · simp

theorem readAll_mem {c : COp} {tm : List Value} : ∀ (hs : List AH) (v : Value), readAll c tm hs = some v → ∀ h ∈ hs, ∃ h', c.run tm h = .val v h' := by
  intro hs v e
  cases hs with
  | nil => cases e
  | cons h0 hs =>
    simp only [readAll] at e
    split at e
    · rename_i v0 h1 hv0
      have key : ∀ (l : List AH) (r : Value), (List.rec (some v0) (fun h' _ ih => match c.run tm h' with
          | .val w _ => cond (eqv w v0) ih none
          | _ => none) l : Option Value) = some r → r = v0 ∧ ∀ h ∈ l, ∃ h', c.run tm h = .val v0 h' := by
        intro l
        induction l with
        | nil => intro r er; cases er; exact ⟨rfl, fun h hh => by cases hh⟩
        | cons x l ih =>
          intro r er
          simp only at er
          split at er
          · rename_i w1 h2 hw1
            cases hs : eqv w1 v0 with
            | false => rw [hs] at er; cases er
            | true =>
              rw [hs] at er
              have : w1 = v0 := by unfold eqv at hs; exact @of_decide_eq_true _ (Classical.propDecidable _) hs
              subst this
              obtain ⟨q1, q2⟩ := ih r er
              refine ⟨q1, fun h hh => ?_⟩
              cases hh with
              | head => exact ⟨_, hw1⟩
              | tail _ hh => exact q2 h hh
          · cases er
      obtain ⟨rfl, q2⟩ := key hs v e
      intro h hh
      cases hh with
      | head => exact ⟨_, hv0⟩
      | tail _ hh => exact q2 h hh
    · cases e

section
variable {ops : Array Oper} {bs ord : List Nat} {X : Nat → Nat} {na : Nat} {ro : Option Nat} {m0 : Mp} {h0 : AH} {w0 : World} {d0 dE d : DS} {C R D : List Nat} {a : Act}

/-- an allocation that comes early -/
theorem Sim.early (ctx : Ctx ops bs ord X na) (S : Sim P E inv ro.isSome ops bs ord X na m0 h0 w0 d0 dE C R D d m w a) {i : Nat} {o : Oper} (ho : ops.toList[i]? = some o) (hni : i ∉ D) (hB : ∀ j, B bs i j → j ∈ D)
    (hal : isAlloc o = true) {v v' : Value} {x : Obj} {ob : AObj} {mk : Nat → Value} (hv : VR (upd m (h0.next + X i) (w.heap.size, 0) (cellCount x)) v v') {tmD : List Value} (mixD : Mix ops.toList D dE.s.tm d0.s.tm tmD) (hvr : VRs m tmD a.tmps.toList)
    (hT : ∀ t, o.dst = some t → dE.s.tm[t]? = if t < dE.s.tm.length then some v else none) (hob : OR m 0 ob x) (hobro : ob.ro = false)
    (hmk : ∀ C1 R1 di, ord = C1 ++ i :: R1 → run E inv ro.isSome ops.toList h0.next X C1 d0 = some di → ∀ h2, E.op (eval di.s.tm) o.op h2 = .val (mk h2.next) (h2.new ob)) :
    Sim P E inv ro.isSome ops bs ord X na m0 h0 w0 d0 dE C R (i :: D) d (upd m (h0.next + X i) (w.heap.size, 0) (cellCount x)) (w.alloc x) (a.put o.dst v') := by
  have hlt : i < ops.toList.length := by
    rcases Nat.lt_or_ge i ops.toList.length with hh | hh
    · exact hh
    · rw [List.getElem?_eq_none hh] at ho; cases ho
  have ai : allocAt ops.toList i = true := by simp only [allocAt, ho]; exact hal
  have hiC : i ∉ C := fun hh => hni (S.sub i hh)
  have hne : effAt ops.toList i = false := by
    have hc := isAlloc_iff.1 hal
    simp only [effAt, ho, isEff, hc]
  have hfree := S.free i hlt hni ai
  obtain ⟨hng, hnh⟩ := S.noget i hlt hiC ai
  have hidlt : h0.next + X i < d.s.h.next := by have := ctx.xlt i hlt ai; have := S.next; omega
  have G := S.goes.early (id := h0.next + X i) (by omega) hidlt hfree hng x (fun c e f hx => by subst hx; exact hob.unfrozen hobro)
  have hr := S.goes.rep
  have he : Ext m (upd m (h0.next + X i) (w.heap.size, 0) (cellCount x)) := ext_upd hfree (fun k dd e => by have := hr.inside k _ _ e; simp at this)
  have hsz : (w.alloc x).heap.size = w.heap.size + 1 := World.size_alloc ..
  have hother : ∀ j, j < ops.toList.length → j ≠ i → allocAt ops.toList j = true → (upd m (h0.next + X i) (w.heap.size, 0) (cellCount x)) (h0.next + X j) = m (h0.next + X j) := by
    intro j hj hne aj
    refine upd_ne _ _ _ (fun hh => hne (ctx.xalloc j i hj hlt aj ai (by omega)))
  have hheld : ∀ b, Held (upd m (h0.next + X i) (w.heap.size, 0) (cellCount x)) d.s.h b → Held m d.s.h b := by
    rintro b ⟨n, q, dd, e1, e2⟩
    have hn : n ≠ h0.next + X i := by rintro rfl; rw [hng] at e1; cases e1
    rw [upd_ne _ _ _ hn] at e2
    exact ⟨n, q, dd, e1, e2⟩
  have hnew : ¬ Held m d.s.h w.heap.size := by
    rintro ⟨n, q, dd, e1, e2⟩
    have := hr.inside _ _ _ e2; omega
  refine ⟨S.ord_eq, S.runC, S.runR, fun j hj => .tail _ (S.sub j hj), ?_, ?_, ?_, G, S.next, ⟨put tmD o.dst v, mixD.add ho hT, put_VRs (hvr.mono he) hv⟩, by rw [put_defers]; exact S.df.mono he, ?_, ?_, ?_, ?_⟩
  · intro j hj
    cases hj with
    | head => exact hlt
    | tail _ hj => exact S.lt j hj
  · intro j hj q hb
    cases hj with
    | head => exact .tail _ (hB q hb)
    | tail _ hj => exact .tail _ (S.closed j hj q hb)
  · intro e he hee
    cases he with
    | head => rw [hne] at hee; cases hee
    | tail _ he => exact S.effs e he hee
  · intro j hj hjC C1 R1 di o' h1 h2 h3 h4 h5
    cases hj with
    | head =>
      rw [ho] at h3; cases h3
      refine ⟨ob, mk, w.heap.size, x, hmk C1 R1 di h1 h2, upd_self .., S.goes.size, by omega, fun hh => hnew (hheld _ hh), ?_, hob.mono he, ?_⟩
      · show (w.heap.push x)[w.heap.size]? = some x; simp
      · show (if w.heap.size = w.heap.size then cellCount x else _) = _; rw [if_pos rfl]
    | tail _ hj =>
      obtain ⟨ob', mk', b, x', g1, g2, g3, g4, g5, g6, g7, g8⟩ := S.pend j hj hjC C1 R1 di o' h1 h2 h3 h4 h5
      refine ⟨ob', mk', b, x', g1, he.at_ _ _ g2, g3, by omega, fun hh => g5 (hheld _ hh), ?_, g7.mono he, by rw [he.sz _ _ _ g2]; exact g8⟩
      show (w.heap.push x)[b]? = _
      rw [Array.getElem?_push, if_neg (by omega)]; exact g6
  · intro j k b dd de hj hjC hk hkC aj ak e1 e2
    have big : ∀ j b dd, j ∈ D → allocAt ops.toList j = true → (upd m (h0.next + X i) (w.heap.size, 0) (cellCount x)) (h0.next + X j) = some (b, dd) → b < w.heap.size := by
      intro j b dd hj aj e
      rw [hother j (S.lt j hj) (fun hh => hni (hh ▸ hj)) aj] at e
      exact hr.inside _ _ _ e
    cases hj with
    | head =>
      rw [upd_self] at e1; cases e1
      cases hk with
      | head => rfl
      | tail _ hk => have := big k _ _ hk ak e2; omega
    | tail _ hj =>
      cases hk with
      | head =>
        rw [upd_self] at e2; cases e2
        have := big j _ _ hj aj e1; omega
      | tail _ hk =>
        rw [hother j (S.lt j hj) (fun hh => hni (hh ▸ hj)) aj] at e1
        rw [hother k (S.lt k hk) (fun hh => hni (hh ▸ hk)) ak] at e2
        exact S.dist j k b dd de hj hjC hk hkC aj ak e1 e2
  · intro j hj hjD aj
    rw [hother j hj (by rintro rfl; exact hjD (.head _)) aj]
    exact S.free j hj (fun hh => hjD (.tail _ hh)) aj
  · intro j hj hjC aj
    obtain ⟨n1, n2⟩ := S.noget j hj hjC aj
    refine ⟨n1, fun b dd hb hh => ?_⟩
    by_cases hji : j = i
    · subst hji
      rw [upd_self] at hb; cases hb
      exact hnew (hheld _ hh)
    · rw [hother j hj hji aj] at hb
      exact n2 b dd hb (hheld _ hh)

/-- one operation of the model that is no effect -/
theorem sim_step (hE : E.Types P) (ctx : Ctx ops bs ord X na) (S : Sim P E inv ro.isSome ops bs ord X na m0 h0 w0 d0 dE C R D d m w a) (hst : ∃ H, d.hs = H ++ [d.s.h]) (hd0 : d0.hs.length = 1) {i : Nat} {o : Oper} (ho : ops[i]? = some o)
    (hok : okOp o.op = true) (hni : i ∉ D) (hB : ∀ j, B bs i j → j ∈ D) (hne : effAt ops.toList i = false) (b : Frame) (rest : List Nat) (k : List Item) (cs : List Frame) :
    ∃ m' w' a', Sim P E inv ro.isSome ops bs ord X na m0 h0 w0 d0 dE C R (i :: D) d m' w' a' ∧ Steps P (lone (b.atR a (.inRegion ops (i :: rest) :: k)) cs w) (lone (b.atR a' (.inRegion ops rest :: k)) cs w') := by
  have hoL : ops.toList[i]? = some o := by rw [Array.getElem?_toList]; exact ho
  have hlt : i < ops.toList.length := by
    rcases Nat.lt_or_ge i ops.toList.length with hh | hh
    · exact hh
    · rw [List.getElem?_eq_none hh] at hoL; cases hoL
  obtain ⟨R1, R2, di, di', hR, p1, p2, p3, hord, hCr, hpk, hT⟩ := peek ctx S hoL hni hB
  obtain ⟨tmD, mixD, hvr⟩ := S.tms
  obtain ⟨hev, hwd⟩ := hpk tmD mixD
  have hnC : i ∉ C ++ R1 := (ctx.split _ _ _ hord).2.1
  have huniq : ∀ C1 R1' di2, ord = C1 ++ i :: R1' → run E inv ro.isSome ops.toList h0.next X C1 d0 = some di2 → di2 = di := by
    intro C1 R1' di2 h1 h2
    obtain ⟨q1, _⟩ := split_uniq (h1.symm.trans hord) ((ctx.split _ _ _ h1).2.1) hnC
    subst q1
    rw [hCr] at h2; cases h2; rfl
  have hcong : ∀ h, E.op (eval tmD) o.op h = E.op (eval di.s.tm) o.op h := fun h => op_congr _ _ fun x hx => (hev x hx).symm
  have hrr := eval_RR hvr
  obtain ⟨o', ho', hc⟩ := draw_cases p2
  rw [hoL] at ho'; cases ho'
  rcases hc with ⟨hw, e⟩ | ⟨hw, e⟩
  · have hwA : Region.wanted o (yielded ops a.tmps) = true := by rw [← wanted_eq hvr o, ← hwd]; exact hw
    -- a value by op_val
    have val : ∀ v, E.op (eval tmD) o.op d.s.h = .val v d.s.h → di'.s.tm = put di.s.tm o.dst v → isAlloc o = false →
        ∃ m' w' a', Sim P E inv ro.isSome ops bs ord X na m0 h0 w0 d0 dE C R (i :: D) d m' w' a' ∧ Steps P (lone (b.atR a (.inRegion ops (i :: rest) :: k)) cs w) (lone (b.atR a' (.inRegion ops rest :: k)) cs w') := by
      intro v hv htm hna
      obtain ⟨nx, w', m', v', r1, r2, r3, r4⟩ := op_val hE S.goes.rep hv hok hrr
      refine ⟨m', w', a.put o.dst v', S.more ctx hoL hni hB hne r3 r4 mixD hvr (hT v htm) (fun _ _ _ _ _ hal _ => by rw [hna] at hal; cases hal), .one (step_val ho hwA (noDefer_val hv) r1 r2)⟩
    rcases drawn1_cases e with ⟨hcl, v, hv, rfl⟩ | ⟨hcl, s', hs, rfl⟩ | ⟨hcl, v, h1, hv, rfl⟩ | ⟨hcl, v, h1, hv, rfl⟩
    · -- a read
      have hna : isAlloc o = false := by simp only [isAlloc, hcl]
      obtain ⟨H, hH⟩ := hst
      obtain ⟨⟨more, hmore⟩, _⟩ := run_hs R1 d di p1
      have hcount := (run_hs C d0 d S.runC).2
      have hx := ctx.xread i o hoL hcl
      have hXle : X i ≤ H.length := by
        rw [hx, S.ord_eq, List.filter_append]
        have : (C.filter (effAt ops.toList)).length = H.length := by
          rw [hH] at hcount; simp at hcount; omega
        rw [← this]
        refine takeWhile_le _ _ _ fun f r hf => ?_
        have hfm : f ∈ R.filter (effAt ops.toList) := by rw [hf]; exact .head _
        obtain ⟨f1, f2⟩ := List.mem_filter.1 hfm
        cases hbit : (bs.getD i 0).testBit f with
        | false => rfl
        | true =>
          have := S.effs f (hB f hbit) f2
          exact (ctx.nodup S.ord_eq this f1).elim
      have hmem : d.s.h ∈ di.hs.drop (X i) := by
        rw [hmore, hH, List.append_assoc]
        rw [List.drop_append_of_le_length hXle]
        simp
      obtain ⟨h', hval⟩ := readAll_mem _ _ hv d.s.h hmem
      rw [cop_eq] at hval
      have := read_op hcl hval
      subst this
      exact val v (by rw [hcong]; exact hval) rfl hna
    · have : effAt ops.toList i = true := by simp only [effAt, hoL, isEff, hcl]
      rw [hne] at this; cases this
    · -- an allocation
      have hal : isAlloc o = true := by simp only [isAlloc, hcl]
      have ai : allocAt ops.toList i = true := by simp only [allocAt, hoL]; exact hal
      obtain ⟨ob, mk, hv1, hh1, hind⟩ := alloc_indep hcl hv
      obtain ⟨s, hs1, ob2, mk2, hv2, hh2, hro2, x, mk', hrun, hor, hvr'⟩ := alloc_op (P := P) (m := m) (w := w) (r' := a.eval) hE hcl (by rw [hcong]; exact hv) hok hrr
      have hobe : ob2 = ob := by
        have h3 := hh1.symm.trans hh2
        have := congrArg (fun q => AH.get q (h0.next + X i)) h3
        simp only [AH.get_new] at this
        simpa using this.symm
      subst hobe
      have hfree := S.free i hlt hni ai
      refine ⟨_, _, _, S.early ctx hoL hni hB hal (v := v) (v' := mk' w.heap.size) (x := x) (ob := ob2) (mk := mk) ?_ mixD hvr (hT v rfl) hor hro2 ?_, .one (step_val ho hwA (noDefer_val hv) (v := mk' w.heap.size) (nx := .value (mk' w.heap.size)) (w' := w.alloc x) ?_ (.inl rfl))⟩
      · rw [hv2]; exact hvr' _ _ _ (upd_self ..)
      · intro C1 R1' di2 e1 e2 h2
        have := huniq C1 R1' di2 e1 e2
        subst this
        exact hind h2
      · rw [hs1]; simp only [Sem.run_bind, hrun, Result.andThen_ok, Sem.run_pure]
    · -- a value that asks nothing of memory
      have hna : isAlloc o = false := by simp only [isAlloc, hcl]
      obtain ⟨_, hany⟩ := pure_op hcl hv
      exact val v (by rw [hcong]; exact hany _) rfl hna
  · have hwA : Region.wanted o (yielded ops a.tmps) = false := by rw [← wanted_eq hvr o, ← hwd]; exact hw
    refine ⟨m, w, a.put o.dst undef, S.more ctx hoL hni hB hne (.refl S.goes.rep) (VR.undef m) mixD hvr (hT undef (by rw [e])) (fun C1 R1' di2 e1 e2 _ hw2 => ?_), .one (step_unwanted ho hwA)⟩
    have := huniq C1 R1' di2 e1 e2
    subst this
    rw [hw] at hw2; cases hw2

end

end Go.Ev
