/- A part of a big-step evaluator of the model's language, with the proof that what it comes to, the model comes to for every tape. No conditions. -/
import Derived.Test.YtpncmonojhlheaaGreatEvDrw1
namespace Go.Ev

-- what goes ahead of what

def B (bs : List Nat) (i j : Nat) : Prop := (bs.getD i 0).testBit j = true

theorem fold_bits (acc : List Nat) (j : Nat) : ∀ (l : List Edge) (s : Nat), (l.foldl (fun s e => cond (Region.binds .any e) (s ||| 2 ^ e.on ||| acc.getD e.on 0) s) s).testBit j = true ↔
    s.testBit j = true ∨ ∃ e ∈ l, Region.binds .any e = true ∧ (e.on = j ∨ (acc.getD e.on 0).testBit j = true) := by
  intro l
  induction l with
  | nil => intro s; simp
  | cons e l ih =>
    intro s
    rw [List.foldl_cons, ih]
    cases hb : Region.binds .any e with
    | false =>
      simp only [cond_false]
      constructor
      · rintro (h | ⟨e', h1, h2⟩)
        · exact .inl h
        · exact .inr ⟨e', .tail _ h1, h2⟩
      · rintro (h | ⟨e', h1, h2⟩)
        · exact .inl h
        · cases h1 with
          | head => rw [hb] at h2; cases h2.1
          | tail _ h1 => exact .inr ⟨e', h1, h2⟩
    | true =>
      simp only [cond_true, Nat.testBit_or, Nat.testBit_two_pow, Bool.or_eq_true, decide_eq_true_iff]
      constructor
      · rintro ((( h | h) | h) | ⟨e', h1, h2⟩)
        · exact .inl h
        · exact .inr ⟨e, .head _, hb, .inl h⟩
        · exact .inr ⟨e, .head _, hb, .inr h⟩
        · exact .inr ⟨e', .tail _ h1, h2⟩
      · rintro (h | ⟨e', h1, h2, h3⟩)
        · exact .inl (.inl (.inl h))
        · cases h1 with
          | head => rcases h3 with h3 | h3
                    · exact .inl (.inl (.inr h3))
                    · exact .inl (.inr h3)
          | tail _ h1 => exact .inr ⟨e', h1, h2, h3⟩

structure Good (os : List Oper) (bs : List Nat) : Prop where
  len : bs.length = os.length
  out : ∀ i o, os[i]? = some o → ∀ j, B bs i j → ∃ e ∈ o.after.toList, Region.binds .any e = true ∧ (e.on = j ∨ B bs e.on j)
  inn : ∀ i o, os[i]? = some o → ∀ e ∈ o.after.toList, Region.binds .any e = true → B bs i e.on

theorem getD_app (acc : List Nat) (x k : Nat) : (acc ++ [x]).getD k 0 = if k < acc.length then acc.getD k 0 else if k = acc.length then x else 0 := by
  simp only [List.getD_eq_getElem?_getD]
  split
  · rename_i h; rw [List.getElem?_append_left h]
  · rename_i h
    rw [List.getElem?_append_right (by omega)]
    split
    · rename_i h2; subst h2; simp
    · rename_i h2
      have : k - acc.length = (k - acc.length - 1) + 1 := by omega
      rw [this]; simp

theorem getD_out (acc : List Nat) {k : Nat} (h : acc.length ≤ k) : acc.getD k 0 = 0 := by
  simp [List.getD_eq_getElem?_getD, List.getElem?_eq_none h]

theorem befores_good : ∀ (r pre : List Oper) (acc : List Nat), Good pre acc → Good (pre ++ r) (befores r acc) := by
  intro r
  induction r with
  | nil => intro pre acc h; simpa [befores] using h
  | cons o r ih =>
    intro pre acc h
    simp only [befores]
    have := ih (pre ++ [o]) (acc ++ [o.after.toList.foldl (fun s e => cond (Region.binds .any e) (s ||| 2 ^ e.on ||| acc.getD e.on 0) s) 0]) ?_
    · simpa using this
    · generalize hx : o.after.toList.foldl (fun s e => cond (Region.binds .any e) (s ||| 2 ^ e.on ||| acc.getD e.on 0) s) 0 = x
      have hbits : ∀ j, x.testBit j = true ↔ ∃ e ∈ o.after.toList, Region.binds .any e = true ∧ (e.on = j ∨ (acc.getD e.on 0).testBit j = true) := by
        intro j; rw [← hx, fold_bits]; simp
      have up : ∀ k j, (acc.getD k 0).testBit j = true → B (acc ++ [x]) k j := by
        intro k j hh
        unfold B
        rw [getD_app]
        split
        · exact hh
        · rename_i hk
          rw [getD_out acc (by omega)] at hh
          simp at hh
      refine ⟨by simp [h.len], ?_, ?_⟩
      · intro i o' ho j hj
        unfold B at hj
        rw [getD_app] at hj
        rcases Nat.lt_or_ge i acc.length with hlt | hge
        · rw [if_pos hlt] at hj
          rw [List.getElem?_append_left (by rw [← h.len]; exact hlt)] at ho
          obtain ⟨e, h1, h2, h3⟩ := h.out i o' ho j hj
          exact ⟨e, h1, h2, h3.imp id (up _ _)⟩
        · rw [if_neg (by omega)] at hj
          split at hj
          · rename_i hi
            rw [List.getElem?_append_right (by rw [← h.len]; omega)] at ho
            have : i - pre.length = 0 := by rw [← h.len]; omega
            rw [this] at ho
            cases ho
            obtain ⟨e, h1, h2, h3⟩ := (hbits j).1 hj
            exact ⟨e, h1, h2, h3.imp id (up _ _)⟩
          · simp at hj
      · intro i o' ho e he hb
        unfold B
        rw [getD_app]
        rcases Nat.lt_or_ge i acc.length with hlt | hge
        · rw [if_pos hlt]
          rw [List.getElem?_append_left (by rw [← h.len]; exact hlt)] at ho
          exact h.inn i o' ho e he hb
        · rw [if_neg (by omega)]
          rw [List.getElem?_append_right (by rw [← h.len]; omega)] at ho
          cases hi : i - pre.length with
          | zero =>
            rw [hi] at ho; cases ho
            rw [if_pos (by rw [← h.len] at hi; omega)]
            exact (hbits _).2 ⟨e, he, hb, .inl rfl⟩
          | succ q => rw [hi] at ho; simp at ho

theorem befores_ok (os : List Oper) : Good os (befores os []) := by
  have := befores_good os [] [] ⟨rfl, fun i o h => by simp at h, fun i o h => by simp at h⟩
  simpa using this

-- the order of a plan

theorem ordOk_split {n : Nat} {bs : List Nat} : ∀ (l done : List Nat), ordOk n bs l done = true →
    (∀ i < n, i ∈ done ∨ i ∈ l) ∧ ∀ C i R, l = C ++ i :: R → i < n ∧ i ∉ C ∧ i ∉ done ∧ ∀ j < n, B bs i j → j ∈ C ∨ j ∈ done := by
  intro l
  induction l with
  | nil =>
    intro done h
    refine ⟨fun i hi => ?_, fun C i R hh => by simp at hh⟩
    simp only [ordOk, List.all_eq_true] at h
    exact .inl (by simpa using h i (List.mem_range.2 hi))
  | cons x l ih =>
    intro done h
    simp only [ordOk, Bool.and_eq_true, List.all_eq_true] at h
    obtain ⟨⟨⟨h1, h2⟩, h3⟩, h4⟩ := h
    have h1 : x < n := Nat.le_of_ble_eq_true h1
    have h2 : x ∉ done := by simpa using h2
    obtain ⟨g1, g2⟩ := ih (x :: done) h4
    refine ⟨fun i hi => ?_, ?_⟩
    · rcases g1 i hi with h | h
      · cases h with
        | head => exact .inr (.head _)
        | tail _ h => exact .inl h
      · exact .inr (.tail _ h)
    · intro C i R hh
      cases C with
      | nil =>
        simp only [List.nil_append, List.cons.injEq] at hh
        obtain ⟨rfl, rfl⟩ := hh
        refine ⟨h1, by simp, h2, fun j hj hb => .inr ?_⟩
        have := h3 j (List.mem_range.2 hj)
        unfold B at hb
        rw [hb] at this
        simpa using this
      | cons c C =>
        simp only [List.cons_append, List.cons.injEq] at hh
        obtain ⟨rfl, hh⟩ := hh
        obtain ⟨q1, q2, q3, q4⟩ := g2 C i R hh
        refine ⟨q1, ?_, fun hd => q3 (.tail _ hd), fun j hj hb => ?_⟩
        · intro hc
          cases hc with
          | head => exact q3 (.head _)
          | tail _ hc => exact q2 hc
        · rcases q4 j hj hb with h | h
          · exact .inl (.tail _ h)
          · cases h with
            | head => exact .inl (.head _)
            | tail _ h => exact .inr h

theorem lateOk_split {ops : List Oper} {bs : List Nat} : ∀ (l : List Nat), lateOk ops bs l = true → ∀ C i R, l = C ++ i :: R → effAt ops i = true ∨ ∀ e, R.find? (effAt ops) = some e → B bs e i := by
  intro l
  induction l with
  | nil => intro h C i R hh; simp at hh
  | cons x l ih =>
    intro h C i R hh
    simp only [lateOk, Bool.and_eq_true, Bool.or_eq_true] at h
    cases C with
    | nil =>
      simp only [List.nil_append, List.cons.injEq] at hh
      obtain ⟨rfl, rfl⟩ := hh
      rcases h.1 with h1 | h1
      · exact .inl h1
      · refine .inr fun e he => ?_
        rw [he] at h1
        exact h1
    | cons c C =>
      simp only [List.cons_append, List.cons.injEq] at hh
      exact ih h.2 C i R hh.2

theorem effsOk_pair {bs : List Nat} : ∀ (l : List Nat), effsOk bs l = true → ∀ A e M f R, l = A ++ e :: (M ++ f :: R) → B bs f e := by
  intro l
  induction l with
  | nil => intro h A e M f R hh; simp at hh
  | cons x l ih =>
    intro h A e M f R hh
    simp only [effsOk, Bool.and_eq_true, List.all_eq_true] at h
    cases A with
    | nil =>
      simp only [List.nil_append, List.cons.injEq] at hh
      obtain ⟨rfl, rfl⟩ := hh
      exact h.1 f (by simp)
    | cons a A =>
      simp only [List.cons_append, List.cons.injEq] at hh
      exact ih h.2 A e M f R hh.2

/-- of two effects, one goes ahead of the other -/
theorem effsOk_two {bs : List Nat} : ∀ (l : List Nat), effsOk bs l = true → ∀ e f, e ∈ l → f ∈ l → e ≠ f → B bs e f ∨ B bs f e := by
  intro l
  induction l with
  | nil => intro h e f he; cases he
  | cons x l ih =>
    intro h e f he hf hne
    simp only [effsOk, Bool.and_eq_true, List.all_eq_true] at h
    cases he with
    | head =>
      cases hf with
      | head => exact absurd rfl hne
      | tail _ hf => exact .inr (h.1 f hf)
    | tail _ he =>
      cases hf with
      | head => exact .inl (h.1 e he)
      | tail _ hf => exact ih h.2 e f he hf hne

/-- temporaries -/
theorem tmpsOk_facts {ops : List Oper} {bs : List Nat} (h : tmpsOk ops bs = true) :
    (∀ (i j : Nat) (o q : Oper) (d : Nat), ops[i]? = some o → ops[j]? = some q → o.dst = some d → q.dst = some d → i = j) ∧
    (∀ (i j : Nat) (o q : Oper) (d : Nat), ops[i]? = some o → ops[j]? = some q → q.dst = some d → i ≠ j → Operand.tmp d ∈ o.op.operands.toList → B bs i j ∨ B bs j i) ∧
    (∀ (i : Nat) (o : Oper) (g : Nat) (want : Bool), ops[i]? = some o → o.guard = some (g, want) → B bs i g) := by
  unfold tmpsOk at h
  simp only [Bool.and_eq_true, List.all_eq_true] at h
  obtain ⟨h1, h2⟩ := h
  have mem : ∀ (i : Nat) (o : Oper), ops[i]? = some o → (o, i) ∈ ops.zipIdx := by
    intro i o ho
    rw [List.mem_zipIdx_iff_getElem?]
    exact ho
  have memw : ∀ (j : Nat) (q : Oper) (d : Nat), ops[j]? = some q → q.dst = some d → (d, j) ∈ ops.zipIdx.filterMap fun x => match x.1.dst with | some d => some (d, x.2) | none => none := by
    intro j q d hq hd
    rw [List.mem_filterMap]
    exact ⟨(q, j), mem j q hq, by simp [hd]⟩
  refine ⟨?_, ?_, ?_⟩
  · intro i j o q d ho hq hdo hdq
    have := h1 (o, i) (mem i o ho) (d, j) (memw j q d hq hdq)
    simp only [Bool.or_eq_true, Bool.and_eq_true] at this
    rcases this with h | ⟨h, _⟩
    · exact (beq_true.1 h).symm
    · rw [hdo] at h
      simp at h
  · intro i j o q d ho hq hdq hne hop
    have := h1 (o, i) (mem i o ho) (d, j) (memw j q d hq hdq)
    simp only [Bool.or_eq_true, Bool.and_eq_true] at this
    rcases this with h | ⟨_, h⟩
    · exact absurd (beq_true.1 h).symm hne
    · rcases h with (h | h) | h
      · have hin : (o.op.operands.toList.flatMap operandTmp).contains d = true := by
          rw [List.contains_iff_mem, List.mem_flatMap]
          exact ⟨.tmp d, hop, by simp [operandTmp]⟩
        rw [hin] at h; cases h
      · exact .inl h
      · exact .inr h
  · intro i o g want ho hg
    have := h2 (o, i) (mem i o ho)
    rw [hg] at this
    exact this

end Go.Ev
