/- A part of a big-step evaluator of the model's language, with the proof that what it comes to, the model comes to for every tape. No conditions. -/
import Derived.Test.YtpncmonojhlheaaGreatEvSnd5
namespace Go.Ev

variable {P : Program} {E : Env} {m : Mp} {h : AH} {w : World} {inv : Inv}

-- an operation looks at its operands alone

theorem opCall_congr {r r' : Operand → Value} (c : Call) (h : AH) (hr : ∀ x ∈ c.operands.toList, r x = r' x) : opCall E r c h = opCall E r' c h := by
  have hargs : c.args.toList.map r = c.args.toList.map r' := List.map_congr_left fun x hx => hr x (by simp [Call.operands]; right; simpa using hx)
  unfold opCall
  cases hc : c.callee with
  | value f => simp only [hargs, hr f (by simp [Call.operands, hc])]
  | builtin b => simp only [hargs]
  | invoke q n => simp only [hargs, hr q (by simp [Call.operands, hc])]

theorem opDefer_congr {r r' : Operand → Value} (c : Call) (hr : ∀ x ∈ c.operands.toList, r x = r' x) : opDefer r c = opDefer r' c := by
  have hargs : c.args.toList.map r = c.args.toList.map r' := List.map_congr_left fun x hx => hr x (by simp [Call.operands]; right; simpa using hx)
  unfold opDefer
  cases hc : c.callee with
  | value f => simp only [hargs, hr f (by simp [Call.operands, hc])]
  | builtin b => rfl
  | invoke q n => rfl

theorem op_congr {r r' : Operand → Value} (o : Op) (h : AH) (hr : ∀ x ∈ o.operands.toList, r x = r' x) : E.op r o h = E.op r' o h := by
  have pairs : ∀ ps : Array (Nat × Operand), (∀ x ∈ ps.toList.map (·.2), r x = r' x) → partsOf r ps = partsOf r' ps := by
    intro ps hp
    unfold partsOf
    exact List.map_congr_left fun p hm => by rw [hp p.2 (List.mem_map.2 ⟨p, hm, rfl⟩)]
  cases o with
  | build t ps => simp only [Env.op]; rw [pairs ps (by simpa [Op.operands] using hr)]
  | buildSlice t n ps => simp only [Env.op]; rw [pairs ps (by simpa [Op.operands] using hr)]
  | makeFunc fn a b =>
    simp only [Env.op]
    rw [Array.map_congr_left (xs := a) fun x hx => hr x (by simp [Op.operands, hx]), Array.map_congr_left (xs := b) fun x hx => hr x (by simp [Op.operands, hx])]
  | call c => exact opCall_congr c h hr
  | defer c => exact opDefer_congr c hr
  | makeMap t x => cases x <;> simp_all [Op.operands, Env.op]
  | slice t x lo hi mx => cases lo <;> cases hi <;> cases mx <;> simp_all [Op.operands, Env.op]
  | _ => first | rfl | (simp_all [Op.operands, Env.op]; done)

-- classes

theorem builtin_cls {b : Builtin} (hb : clsB b = .pure ∨ clsB b = .read) {ts : List Nat} {l : List Value} {v : Value} {h' : AH} (e : E.builtin b ts l h = .val v h') :
    h' = h ∧ (clsB b = .pure → ∀ h2, E.builtin b ts l h2 = .val v h2) := by
  cases b <;> first | (rcases hb with hb | hb <;> cases hb; done) | skip
  · -- len
    unfold Env.builtin at e
    simp only at e
    split at e
    · exact ⟨(ofV_some e).2, fun hh => by cases hh⟩
    · cases e
  · have e : ofV h (maxInt l) = .val v h' := e
    obtain ⟨h1, h2⟩ := ofV_some e
    refine ⟨h2, fun _ h3 => ?_⟩
    show ofV h3 (maxInt l) = .val v h3
    rw [h1]; rfl
  · have e : ofV h (minInt l) = .val v h' := e
    obtain ⟨h1, h2⟩ := ofV_some e
    refine ⟨h2, fun _ h3 => ?_⟩
    show ofV h3 (minInt l) = .val v h3
    rw [h1]; rfl

theorem ofV_any {h h' : AH} {x : Option Value} {v : Value} (e : ofV h x = .val v h') : h' = h ∧ ∀ h2, ofV h2 x = .val v h2 := by
  obtain ⟨h1, h2⟩ := ofV_some e
  exact ⟨h2, fun h3 => by rw [h1]; rfl⟩

theorem pure_op {r : Operand → Value} {o : Op} (hc : cls o = .pure) {v : Value} {h' : AH} (e : E.op r o h = .val v h') : h' = h ∧ ∀ h2, E.op r o h2 = .val v h2 := by
  cases o with
  | move x => cases e; exact ⟨rfl, fun _ => rfl⟩
  | assign x => cases e; exact ⟨rfl, fun _ => rfl⟩
  | pick c a b =>
    simp only [Env.op, opPick] at e ⊢
    split at e
    · cases e; exact ⟨rfl, fun _ => rfl⟩
    · cases e
  | nilCheck x =>
    simp only [Env.op, opNil] at e ⊢
    split at e
    · cases e; exact ⟨rfl, fun _ => rfl⟩
    · split at e
      · cases e; exact ⟨rfl, fun _ => rfl⟩
      · cases e; exact ⟨rfl, fun _ => rfl⟩
      · cases e
    · cases e
  | unOp op t x => exact ofV_any e
  | fieldAddr t x f => exact ofV_any e
  | indexAddr t x i => exact ofV_any e
  | field t x f => exact ofV_any e
  | index t x i => exact ofV_any e
  | extract t i =>
    simp only [Env.op, opExtract] at e ⊢
    split at e
    · exact ofV_any e
    · cases e
  | slice t x lo hi mx => exact ofV_any e
  | build t ps => exact ofV_any e
  | makeInterface t x =>
    simp only [Env.op, opIface] at e ⊢
    split at e
    · cases e
    · cases e; exact ⟨rfl, fun _ => rfl⟩
    · cases e
  | makeFunc fn a b => cases e; exact ⟨rfl, fun _ => rfl⟩
  | call c =>
    simp only [cls] at hc
    simp only [Env.op, opCall] at e ⊢
    split at hc
    · rename_i b hb
      rw [hb] at e ⊢
      obtain ⟨h1, h2⟩ := builtin_cls (.inl hc) e
      exact ⟨h1, h2 hc⟩
    · cases hc
  | _ => cases hc

theorem read_op {r : Operand → Value} {o : Op} (hc : cls o = .read) {v : Value} {h' : AH} (e : E.op r o h = .val v h') : h' = h := by
  cases o with
  | binOp op t x y yt => exact (ofV_any e).1
  | convert s d x => exact (ofV_any e).1
  | load t a => exact (ofV_any e).1
  | lookup t x k ok => exact (ofV_any e).1
  | call c =>
    simp only [cls] at hc
    simp only [Env.op, opCall] at e
    split at hc
    · rename_i b hb
      rw [hb] at e
      exact (builtin_cls (.inr hc) e).1
    · cases hc
  | _ => cases hc

theorem alloc_indep {r : Operand → Value} {o : Op} (hc : cls o = .alloc) {v : Value} {h' : AH} (e : E.op r o h = .val v h') : ∃ (ob : AObj) (mk : Nat → Value), v = mk h.next ∧ h' = h.new ob ∧ ∀ h2, E.op r o h2 = .val (mk h2.next) (h2.new ob) := by
  cases o with
  | alloc t =>
    simp only [Env.op, opAlloc] at e ⊢
    split at e
    · cases e; exact ⟨_, fun n => ptr n 0, rfl, rfl, fun _ => rfl⟩
    · cases e
  | box t x => cases e; exact ⟨_, fun n => ptr n 0, rfl, rfl, fun _ => rfl⟩
  | buildSlice t len ps =>
    have e := ofVH_some e
    unfold Env.buildSlice at e
    split at e
    · rename_i el hu
      split at e
      · rename_i i hty
        split at e
        · rename_i z hz
          cases hb : (Nat.ble (len * i.size) 16777216 && Nat.beq (vcells z).length i.size && Nat.ble 1 i.size) with
          | false => rw [hb] at e; cases e
          | true =>
            rw [hb] at e
            simp only [cond_true] at e
            unfold newSlice at e
            split at e
            · rename_i cs hcs
              cases e
              refine ⟨_, fun n => .slice (some ⟨n, 0, none⟩) len len, rfl, rfl, fun h2 => ?_⟩
              simp only [Env.op, Env.buildSlice, hu, hty, hz, hb, cond_true, hcs, newSlice, ofVH]
            · cases e
        · cases e
      · cases e
    · cases e
  | makeMap t x =>
    simp only [Env.op, opMap] at e ⊢
    split at e
    · cases e; exact ⟨_, fun n => .map (some n), rfl, rfl, fun _ => rfl⟩
    · split at e
      · cases e; exact ⟨_, fun n => .map (some n), rfl, rfl, fun _ => rfl⟩
      · cases e
  | makeSlice t l c =>
    simp only [Env.op, opMake] at e ⊢
    split at e
    · rename_i kl len kc cap hl hcp
      have e := ofVH_some e
      unfold Env.makeSlice at e
      split at e
      · rename_i el hu
        split at e
        · rename_i i hty
          split at e
          · rename_i z hz
            cases hb : (ile 0 len && ile len cap && ile cap 9223372036854775807 && ile (.ofNat i.bytes * cap) 281474976710656 && Nat.beq (vcells z).length i.size && Nat.ble 1 i.size) with
            | false => rw [hb] at e; cases e
            | true =>
              rw [hb] at e
              simp only [cond_true, Option.some.injEq, Prod.mk.injEq] at e
              obtain ⟨rfl, rfl⟩ := e
              refine ⟨_, fun n => .slice (some ⟨n, 0, none⟩) len.toNat cap.toNat, rfl, rfl, fun h2 => ?_⟩
              simp only [Env.makeSlice, hu, hty, hz, hb, cond_true, ofVH]
          · cases e
        · cases e
      · cases e
    · cases e
  | call c =>
    simp only [cls] at hc
    split at hc
    · rename_i b _
      cases b <;> cases hc
    · cases hc
  | _ => cases hc

theorem same_list {n : Nat} (ih : ∀ v w, same n v w = true → v = w) : ∀ (a b : List Value), a.length = b.length → ((a.zip b).all fun x => same n x.1 x.2) = true → a = b := by
  intro a
  induction a with
  | nil => intro b hl _; cases b with
    | nil => rfl
    | cons x y => simp at hl
  | cons x xs ihx =>
    intro b hl hh
    cases b with
    | nil => simp at hl
    | cons y ys =>
      simp only [List.zip_cons_cons, List.all_cons, Bool.and_eq_true] at hh
      rw [ih x y hh.1, ihx ys (by simpa using hl) hh.2]

theorem bytes_eq {a b : ByteArray} (h : (a == b) = true) : a = b := by
  obtain ⟨x⟩ := a
  obtain ⟨y⟩ := b
  have e : x = y := by simpa using (show (x == y) = true from h)
  rw [e]

theorem arr_eq {a b : Array Value} (h : a.toList = b.toList) : a = b := Array.ext' h

theorem same_eq : ∀ (n : Nat) (v w : Value), same n v w = true → v = w := by
  intro n
  induction n with
  | zero =>
    intro v w h
    cases v <;> cases w <;> first
      | (simp [same] at h; done)
      | (have h := bytes_eq h; rw [h]; done)
      | (simp only [same, beq_iff_eq] at h; rw [h]; done)
      | (simp only [same, Bool.and_eq_true, ieq_eq, beq_iff_eq] at h; rw [(kindEq_eq _ _).1 h.1, h.2]; done)
      | (simp only [same, Bool.and_eq_true, beq_iff_eq, beq_true] at h; rw [h.1.1, h.1.2, h.2]; done)
      | rfl
  | succ n ih =>
    intro v w h
    have lst : ∀ {a b : Array Value}, Nat.beq a.size b.size = true → ((a.toList.zip b.toList).all fun x => same n x.1 x.2) = true → a = b := fun h1 h2 =>
      arr_eq (same_list ih _ _ (by simpa using Nat.eq_of_beq_eq_true h1) h2)
    cases v with
    | bool a => cases w <;> first | (simp [same] at h; done) | (simp only [same, beq_iff_eq] at h; rw [h])
    | int j a => cases w <;> first | (simp [same] at h; done) | (simp only [same, Bool.and_eq_true, ieq_eq, beq_iff_eq] at h; rw [(kindEq_eq _ _).1 h.1, h.2])
    | string a => cases w <;> first | (simp [same] at h; done) | (have h := bytes_eq h; rw [h])
    | pointer a => cases w <;> first | (simp [same] at h; done) | (simp only [same, beq_iff_eq] at h; rw [h])
    | slice a l c => cases w <;> first | (simp [same] at h; done) | (simp only [same, Bool.and_eq_true, beq_iff_eq, beq_true] at h; rw [h.1.1, h.1.2, h.2])
    | map a => cases w <;> first | (simp [same] at h; done) | (simp only [same, beq_iff_eq] at h; rw [h])
    | nilFunc => cases w <;> first | (simp [same] at h; done) | rfl
    | nilIface => cases w <;> first | (simp [same] at h; done) | rfl
    | iface t v => cases w with
      | iface u w => simp only [same, Bool.and_eq_true, beq_true] at h; rw [h.1, ih _ _ h.2]
      | _ => simp [same] at h
    | agg a => cases w with
      | agg b => simp only [same, Bool.and_eq_true] at h; rw [lst h.1 h.2]
      | _ => simp [same] at h
    | tuple a => cases w with
      | tuple b => simp only [same, Bool.and_eq_true] at h; rw [lst h.1 h.2]
      | _ => simp [same] at h
    | func f a c => cases w with
      | func g b d =>
        simp only [same, Bool.and_eq_true] at h
        obtain ⟨⟨⟨⟨h1, h2⟩, h3⟩, h4⟩, h5⟩ := h
        rw [lst h2 h3, lst h4 h5, eq_of_beq h1]
      | _ => simp [same] at h
    | _ => cases w <;> simp [same] at h

end Go.Ev
