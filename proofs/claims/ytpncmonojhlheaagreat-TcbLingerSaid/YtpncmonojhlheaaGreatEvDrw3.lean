/- A part of a big-step evaluator of the model's language, with the proof that what it comes to, the model comes to for every tape. No conditions. -/
import Derived.Test.YtpncmonojhlheaaGreatEvDrw2
namespace Go.Ev

variable {P : Program} {E : Env} {m : Mp} {h : AH} {w : World} {inv : Inv}

-- blocks that come early

theorem Goes.early {m0 : Mp} {h0 : AH} {w0 : World} (G : Goes m0 h0 w0 m h w) {id : Nat} (hid : h0.next ≤ id) (hlt : id < h.next) (hm : m id = none) (hg : h.get id = none) (x : Obj) (hfz : ∀ c e f, x = .cells c e f → f = (0, 0)) :
    Goes m0 h0 w0 (upd m id (w.heap.size, 0) (cellCount x)) h (w.alloc x) := by
  have hr := G.rep
  have hnob : ∀ k d, m k = some (w.heap.size, d) → False := fun k d e => by have := hr.inside k _ _ e; omega
  have he : Ext m (upd m id (w.heap.size, 0) (cellCount x)) := ext_upd hm (fun k d e => (hnob k d e).elim)
  have hsz : (w.alloc x).heap.size = w.heap.size + 1 := World.size_alloc ..
  have hold : ∀ b, b < w.heap.size → (w.alloc x).heap[b]? = w.heap[b]? := by
    intro b hb; show (w.heap.push x)[b]? = _; rw [Array.getElem?_push, if_neg (by omega)]
  have hne : ∀ n o, h.get n = some o → n ≠ id := by rintro n o e rfl; rw [hg] at e; cases e
  refine ⟨G.ext.trans he, ⟨?_, ?_, ?_, ?_, ?_⟩, ?_, by have := G.size; omega, ?_, G.next, ?_, ?_, G.tape, G.os, G.out, ?_⟩
  · intro n hn
    rw [upd_ne _ _ _ (by omega)]
    exact hr.fresh n hn
  · intro n b d e
    by_cases hn : n = id
    · subst hn; rw [upd_self] at e; cases e; omega
    · rw [upd_ne _ _ _ hn] at e; have := hr.inside n b d e; omega
  · intro n o e
    obtain ⟨b, d, y, h1, h2, h3⟩ := hr.obj n o e
    exact ⟨b, d, y, he.at_ _ _ h1, by rw [hold b (hr.inside n b d h1)]; exact h2, h3.mono he⟩
  · intro n n' p p' b d d' e e' h1 h2
    rw [upd_ne _ _ _ (hne n p e)] at h1
    rw [upd_ne _ _ _ (hne n' p' e')] at h2
    exact hr.apart n n' p p' b d d' e e' h1 h2
  · intro n p b d c e fz hgn hmn hbn
    rw [upd_ne _ _ _ (hne n p hgn)] at hmn
    have hlt := hr.inside n b d hmn
    rw [hold b hlt] at hbn
    show c.size = (if b = w.heap.size then _ else m.sz b)
    rw [if_neg (by omega)]
    exact hr.sized n p b d c e fz hgn hmn hbn
  · rintro b ⟨n, p, d, e, e'⟩
    rw [upd_ne _ _ _ (hne n p e)] at e'
    exact G.held b ⟨n, p, d, e, e'⟩
  · intro b hb hn
    rw [hold b (by have := G.size; omega)]
    exact G.kept b hb hn
  · intro n hn
    rw [upd_ne _ _ _ (by omega)]
    exact G.old n hn
  · intro b c e f hlt hh
    rcases Nat.lt_or_ge b w.heap.size with hb | hb
    · rw [hold b hb] at hh; exact G.fro b c e f hlt hh
    · rcases Nat.lt_or_ge w.heap.size b with hb' | hb'
      · rw [Array.getElem?_eq_none (by omega)] at hh; cases hh
      · have : b = w.heap.size := by omega
        subst this
        have hnew : (w.alloc x).heap[w.heap.size]? = some x := by show (w.heap.push x)[w.heap.size]? = some x; simp
        rw [hnew] at hh; cases hh
        exact .inl (hfz _ _ _ rfl)
  · intro n c b d e1 e2
    obtain ⟨x1, x2⟩ := G.rok n c b d e1 e2
    exact ⟨x1, by rw [hold b (hr.inside n b d (G.ext.at_ _ _ e2))]; exact x2⟩

/-- what came early is taken in -/
theorem Goes.adopt {m0 : Mp} {h0 : AH} {w0 : World} (G : Goes m0 h0 w0 m h w) {id b : Nat} {ob : AObj} {x : Obj} (hlt : id < h.next) (hm : m id = some (b, 0)) (hb0 : w0.heap.size ≤ b) (hn : ¬ Held m h b) (hb : w.heap[b]? = some x)
    (ho : OR m 0 ob x) (hsz : m.sz b = cellCount x) : Goes m0 h0 w0 m (h.put id ob) w := by
  have hr := G.rep
  refine ⟨G.ext, ⟨?_, hr.inside, ?_, ?_, ?_⟩, ?_, G.size, G.kept, by rw [AH.next_put]; exact G.next, G.old, G.fro, G.tape, G.os, G.out, ?_⟩
  · intro n hnn
    rw [AH.next_put] at hnn
    rw [AH.get_put, if_neg (by omega)]
    exact hr.fresh n hnn
  · intro n o e
    rw [AH.get_put] at e
    split at e
    · rename_i hid; cases e; subst hid; exact ⟨b, 0, x, hm, hb, ho⟩
    · exact hr.obj n o e
  · intro n n' p p' c d d' e e' h1 h2
    rw [AH.get_put] at e e'
    split at e <;> split at e'
    · omega
    · rename_i hid _; subst hid; rw [hm] at h1; cases h1; exact absurd ⟨n', p', d', e', h2⟩ hn
    · rename_i _ hid; subst hid; rw [hm] at h2; cases h2; exact absurd ⟨n, p, d, e, h1⟩ hn
    · exact hr.apart n n' p p' c d d' e e' h1 h2
  · intro n p c d cc e fz hg hmn hbn
    rw [AH.get_put] at hg
    split at hg
    · rename_i hid; subst hid; rw [hm] at hmn; cases hmn
      rw [hb] at hbn; cases hbn
      rw [hsz]; rfl
    · exact hr.sized n p c d cc e fz hg hmn hbn
  · rintro c ⟨n, p, d, e, e'⟩
    rw [AH.get_put] at e
    split at e
    · rename_i hid; subst hid; rw [hm] at e'; cases e'; exact .inl hb0
    · exact G.held c ⟨n, p, d, e, e'⟩
  · intro n c b' d e1 e2
    obtain ⟨x1, x2⟩ := G.rok n c b' d e1 e2
    refine ⟨?_, x2⟩
    rw [AH.get_put, if_neg]
    · exact x1
    · rintro rfl
      have := G.ext.at_ _ _ e2
      rw [hm] at this; cases this
      exact hn ⟨n, _, 0, x1, hm⟩

-- runs of steps

def wr (L : List Oper) (i t : Nat) : Prop := ∃ o, L[i]? = some o ∧ o.dst = some t

section
variable (E inv) (ro : Bool) (L : List Oper) (base : Nat) (X : Nat → Nat)

noncomputable def run (l : List Nat) (d : DS) : Option DS := (cdraws E inv ro L base (l.map fun i => (i, X i))).run d

variable {E inv ro L base X}

theorem run_nil (d : DS) : run E inv ro L base X [] d = some d := rfl
theorem run_cons (i : Nat) (l : List Nat) (d : DS) : run E inv ro L base X (i :: l) d = match (cdrawOne E inv ro L base i (X i)).run d with
    | some d' => run E inv ro L base X l d'
    | none => none := rfl

theorem run_cons_some {i : Nat} {l : List Nat} {d dE : DS} (e : run E inv ro L base X (i :: l) d = some dE) : ∃ d', (cdrawOne E inv ro L base i (X i)).run d = some d' ∧ run E inv ro L base X l d' = some dE := by
  rw [run_cons] at e
  split at e
  · rename_i d' hd; exact ⟨d', hd, e⟩
  · cases e

theorem run_append : ∀ (A B : List Nat) (d dE : DS), run E inv ro L base X (A ++ B) d = some dE ↔ ∃ d1, run E inv ro L base X A d = some d1 ∧ run E inv ro L base X B d1 = some dE := by
  intro A
  induction A with
  | nil => intro B d dE; simp [run_nil]
  | cons i A ih =>
    intro B d dE
    rw [List.cons_append, run_cons, run_cons]
    split
    · rename_i d' hd; exact ih B d' dE
    · simp

/-- what a step is -/
theorem draw_cases {i x : Nat} {d d' : DS} (e : (cdrawOne E inv ro L base i x).run d = some d') : ∃ o, L[i]? = some o ∧
    ((wanted L d.s.tm o.guard = true ∧ drawn1 inv ro base x o (cop E o.op) d = some d') ∨
     (wanted L d.s.tm o.guard = false ∧ d' = ⟨⟨put d.s.tm o.dst undef, d.s.df, d.s.h⟩, cond (isEff o) (d.hs ++ [d.s.h]) d.hs⟩)) := by
  unfold cdrawOne at e
  split at e
  · cases e
  · rename_i o ho
    refine ⟨o, ho, ?_⟩
    split at e
    · rename_i hg
      exact .inl ⟨by rw [hg]; rfl, e⟩
    · rename_i g hg
      simp only at e
      split at e
      · rename_i hw; exact .inl ⟨by rw [hg]; exact hw, e⟩
      · rename_i hw
        refine .inr ⟨by rw [hg]; exact hw, ?_⟩
        split at e
        · rename_i he; cases e; rw [he]; rfl
        · rename_i he; cases e; rw [he]; rfl

theorem after1_tm {dst : Option Nat} {s s' : St} {r : AN} (e : after1 inv ro dst s r = some s') : ∃ v, s'.tm = put s.tm dst v ∧ ∀ tm2, after1 inv ro dst ⟨tm2, s.df, s.h⟩ r = some ⟨put tm2 dst v, s'.df, s'.h⟩ := by
  unfold after1 at e
  split at e
  · cases e; exact ⟨_, rfl, fun _ => rfl⟩
  · split at e
    · rename_i v h1 hv
      cases e
      exact ⟨v, rfl, fun tm2 => by simp only [after1, hv]⟩
    · cases e
  · cases ro with
    | true => cases e
    | false => cases e; exact ⟨_, rfl, fun _ => rfl⟩
  · cases e

/-- a step that is wanted, by its class -/
theorem drawn1_cases {x : Nat} {o : Oper} {d d' : DS} (e : drawn1 inv ro base x o (cop E o.op) d = some d') :
    (cls o.op = .read ∧ ∃ v, readAll (cop E o.op) d.s.tm (d.hs.drop x) = some v ∧ d' = ⟨⟨put d.s.tm o.dst v, d.s.df, d.s.h⟩, d.hs⟩) ∨
    (cls o.op = .eff ∧ ∃ s', after1 inv ro o.dst d.s (E.op (eval d.s.tm) o.op d.s.h) = some s' ∧ d' = ⟨s', d.hs ++ [s'.h]⟩) ∨
    (cls o.op = .alloc ∧ ∃ v h1, E.op (eval d.s.tm) o.op ⟨d.s.h.tr, base + x⟩ = .val v h1 ∧ d' = ⟨⟨put d.s.tm o.dst v, d.s.df, ⟨h1.tr, d.s.h.next⟩⟩, d.hs⟩) ∨
    (cls o.op = .pure ∧ ∃ v h1, E.op (eval d.s.tm) o.op d.s.h = .val v h1 ∧ d' = ⟨⟨put d.s.tm o.dst v, d.s.df, d.s.h⟩, d.hs⟩) := by
  unfold drawn1 at e
  split at e
  · rename_i hc
    split at e
    · rename_i v hv; cases e; exact .inl ⟨hc, v, hv, rfl⟩
    · cases e
  · rename_i hc
    rw [cop_eq] at e
    split at e
    · rename_i s' hs; cases e; exact .inr (.inl ⟨hc, s', hs, rfl⟩)
    · cases e
  · rename_i hc
    rw [cop_eq] at e
    split at e
    · rename_i v h1 hv; cases e; exact .inr (.inr (.inl ⟨hc, v, h1, hv, rfl⟩))
    · cases e
  · rename_i hc
    rw [cop_eq] at e
    split at e
    · rename_i v h1 hv; cases e; exact .inr (.inr (.inr ⟨hc, v, h1, hv, rfl⟩))
    · cases e

theorem isEff_iff {o : Oper} : isEff o = true ↔ cls o.op = .eff := by
  unfold isEff; split <;> simp_all
theorem isAlloc_iff {o : Oper} : isAlloc o = true ↔ cls o.op = .alloc := by
  unfold isAlloc; split <;> simp_all

theorem draw_tm {i x : Nat} {d d' : DS} (e : (cdrawOne E inv ro L base i x).run d = some d') : ∃ o v, L[i]? = some o ∧ d'.s.tm = put d.s.tm o.dst v := by
  obtain ⟨o, ho, ⟨hw, e⟩ | ⟨hw, rfl⟩⟩ := draw_cases e
  · rcases drawn1_cases e with ⟨_, v, _, rfl⟩ | ⟨_, s', hs, rfl⟩ | ⟨_, v, h1, _, rfl⟩ | ⟨_, v, h1, _, rfl⟩
    · exact ⟨o, v, ho, rfl⟩
    · obtain ⟨v, hv, _⟩ := after1_tm hs; exact ⟨o, v, ho, hv⟩
    · exact ⟨o, v, ho, rfl⟩
    · exact ⟨o, v, ho, rfl⟩
  · exact ⟨o, undef, ho, rfl⟩

theorem draw_hs {i x : Nat} {d d' : DS} (e : (cdrawOne E inv ro L base i x).run d = some d') :
    (effAt L i = false → d'.hs = d.hs ∧ d'.s.df = d.s.df) ∧ (effAt L i = true → d'.hs = d.hs ++ [d'.s.h]) := by
  obtain ⟨o, ho, ⟨hw, e⟩ | ⟨hw, rfl⟩⟩ := draw_cases e
  · rcases drawn1_cases e with ⟨hc, v, _, rfl⟩ | ⟨hc, s', hs, rfl⟩ | ⟨hc, v, h1, _, rfl⟩ | ⟨hc, v, h1, _, rfl⟩
    · exact ⟨fun _ => ⟨rfl, rfl⟩, fun hh => by simp only [effAt, ho, isEff, hc] at hh; cases hh⟩
    · exact ⟨fun hh => (by simp only [effAt, ho, isEff, hc] at hh; cases hh), fun _ => rfl⟩
    · exact ⟨fun _ => ⟨rfl, rfl⟩, fun hh => by simp only [effAt, ho, isEff, hc] at hh; cases hh⟩
    · exact ⟨fun _ => ⟨rfl, rfl⟩, fun hh => by simp only [effAt, ho, isEff, hc] at hh; cases hh⟩
  · refine ⟨fun hh => ?_, fun hh => ?_⟩
    · simp only [effAt, ho] at hh; rw [hh]; exact ⟨rfl, rfl⟩
    · simp only [effAt, ho] at hh; rw [hh]; rfl

theorem put_get (tm : List Value) (dst : Option Nat) (v : Value) : (put tm dst v).length = tm.length ∧ ∀ t, (put tm dst v)[t]? = if dst = some t then (if t < tm.length then some v else none) else tm[t]? := by
  cases dst with
  | none => exact ⟨rfl, fun t => by simp [put]⟩
  | some d =>
    refine ⟨by simp [put, setN_eq], fun t => ?_⟩
    simp only [put, setN_eq, Option.some.injEq, List.getElem?_set]
    by_cases h : d = t
    · subst h; simp
    · simp [h]

theorem run_tm : ∀ (l : List Nat) (d d' : DS), run E inv ro L base X l d = some d' → d'.s.tm.length = d.s.tm.length ∧ ∀ t, (∀ i ∈ l, ¬ wr L i t) → d'.s.tm[t]? = d.s.tm[t]? := by
  intro l
  induction l with
  | nil => intro d d' e; rw [run_nil] at e; cases e; exact ⟨rfl, fun _ _ => rfl⟩
  | cons i l ih =>
    intro d d' e
    obtain ⟨d1, h1, h2⟩ := run_cons_some e
    obtain ⟨o, v, ho, ht⟩ := draw_tm h1
    obtain ⟨g1, g2⟩ := ih d1 d' h2
    obtain ⟨p1, p2⟩ := put_get d.s.tm o.dst v
    refine ⟨by rw [g1, ht, p1], fun t hh => ?_⟩
    rw [g2 t (fun j hj => hh j (.tail _ hj)), ht, p2, if_neg]
    intro hd
    exact hh i (.head _) ⟨o, ho, hd⟩

theorem run_hs : ∀ (l : List Nat) (d d' : DS), run E inv ro L base X l d = some d' → (∃ more, d'.hs = d.hs ++ more) ∧ d'.hs.length = d.hs.length + (l.filter (effAt L)).length := by
  intro l
  induction l with
  | nil => intro d d' e; rw [run_nil] at e; cases e; exact ⟨⟨[], by simp⟩, by simp⟩
  | cons i l ih =>
    intro d d' e
    obtain ⟨d1, h1, h2⟩ := run_cons_some e
    obtain ⟨q1, q2⟩ := draw_hs h1
    obtain ⟨⟨more, g1⟩, g2⟩ := ih d1 d' h2
    cases hi : effAt L i with
    | false =>
      obtain ⟨q, _⟩ := q1 hi
      exact ⟨⟨more, by rw [g1, q]⟩, by rw [g2, q, List.filter_cons, hi]; simp⟩
    | true =>
      have q := q2 hi
      refine ⟨⟨[d1.s.h] ++ more, by rw [g1, q]; simp⟩, ?_⟩
      rw [g2, q, List.filter_cons, hi]; simp; omega

end

-- temporaries, when some have been written

structure Mix (L : List Oper) (S : List Nat) (T tm0 tm : List Value) : Prop where
  len : tm.length = tm0.length
  tlen : T.length = tm0.length
  yes : ∀ t, (∃ i ∈ S, wr L i t) → tm[t]? = T[t]?
  no : ∀ t, (∀ i ∈ S, ¬ wr L i t) → tm[t]? = tm0[t]?

theorem Mix.agree {L : List Oper} {S S' : List Nat} {T tm0 tm tm' : List Value} (a : Mix L S T tm0 tm) (b : Mix L S' T tm0 tm') {t : Nat} (hh : (∃ i ∈ S, wr L i t) ↔ (∃ i ∈ S', wr L i t)) : tm[t]? = tm'[t]? := by
  by_cases hs : ∃ i ∈ S, wr L i t
  · rw [a.yes t hs, b.yes t (hh.1 hs)]
  · have hs' : ¬ ∃ i ∈ S', wr L i t := fun q => hs (hh.2 q)
    rw [a.no t (fun i hi hw => hs ⟨i, hi, hw⟩), b.no t (fun i hi hw => hs' ⟨i, hi, hw⟩)]

theorem Mix.add {L : List Oper} {D : List Nat} {T tm0 tm : List Value} (a : Mix L D T tm0 tm) {i : Nat} {o : Oper} (ho : L[i]? = some o) {v : Value} (hT : ∀ t, o.dst = some t → T[t]? = if t < T.length then some v else none) : Mix L (i :: D) T tm0 (put tm o.dst v) := by
  obtain ⟨p1, p2⟩ := put_get tm o.dst v
  refine ⟨by rw [p1, a.len], a.tlen, fun t hh => ?_, fun t hh => ?_⟩
  · rw [p2]
    split
    · rename_i hd
      rw [hT t hd, a.len, a.tlen]
    · rename_i hd
      obtain ⟨j, hj, hw⟩ := hh
      cases hj with
      | head =>
        obtain ⟨o', ho', hd'⟩ := hw
        rw [ho] at ho'; cases ho'
        exact absurd hd' hd
      | tail _ hj => exact a.yes t ⟨j, hj, hw⟩
  · rw [p2, if_neg (fun hd => hh i (.head _) ⟨o, ho, hd⟩)]
    exact a.no t (fun j hj => hh j (.tail _ hj))

theorem eval_agree {tm tm' : List Value} (x : Operand) (h : ∀ t, x = .tmp t → tm[t]? = tm'[t]?) : eval tm x = eval tm' x := by
  cases x with
  | tmp t => simp only [eval, tmpAt, nth_eq, h t rfl]
  | _ => rfl

theorem wanted_agree {L : List Oper} {tm tm' : List Value} (g : Option (Nat × Bool)) (h : ∀ j want t, g = some (j, want) → wr L j t → tm[t]? = tm'[t]?) : wanted L tm g = wanted L tm' g := by
  cases g with
  | none => rfl
  | some p =>
    obtain ⟨j, want⟩ := p
    have : yes L tm j = yes L tm' j := by
      unfold yes
      cases ho : L[j]? with
      | none => rfl
      | some o =>
        simp only
        cases hd : o.dst with
        | none => rfl
        | some t => simp only [nth_eq, h j want t rfl ⟨o, ho, hd⟩]
    simp only [wanted, this]

end Go.Ev
