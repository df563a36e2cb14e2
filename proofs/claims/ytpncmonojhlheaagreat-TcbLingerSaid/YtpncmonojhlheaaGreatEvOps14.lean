/- A part of a big-step evaluator of the model's language, with the proof that what it comes to, the model comes to for every tape. No conditions. -/
import Derived.Test.YtpncmonojhlheaaGreatEvOps13
namespace Go.Ev

variable {P : Program} {E : Env} {m : Mp} {h : AH} {w : World}

/-- something new: what it holds, and a value that points at it, whatever its number -/
def NewN (P : Program) (m : Mp) (w : World) (h : AH) (s : Sem Value) (v : Value) (h' : AH) : Prop :=
  ∃ (ob : AObj) (mk : Nat → Value), v = mk h.next ∧ h' = h.new ob ∧ ob.ro = false ∧ ∃ (x : Obj) (mk' : Nat → Value), s.run P w = .ok (mk' w.heap.size) (w.alloc x) ∧ OR m 0 ob x ∧ ∀ (m' : Mp) (n b : Nat), m' n = some (b, 0) → VR m' (mk n) (mk' b)

theorem NewN.does (hr : Rep m h w) {s : Sem Value} {v : Value} {h' : AH} (e : NewN P m w h s v h') : Does P m h w s v h' := by
  obtain ⟨ob, mk, rfl, rfl, hro, x, mk', h1, h2, h3⟩ := e
  exact ⟨_, _, _, h1,  .new hr (h2.mono (ext_more hr x)) hro, h3 _ _ _ (more1_self ..)⟩

theorem or_cells {cs : List Value} {cs' : Array Value} (hv : VRs m cs cs'.toList) (t : TypeId) : OR m 0 (.cells cs false) (.cells cs' t (0, 0)) := by
  refine .cells (fun _ => rfl) ?_ ?_
  · have := hv.1; simp at this ⊢; omega
  · intro i v hi
    obtain ⟨x, h1, h2⟩ := hv.get hi
    rw [Array.getElem?_toList] at h1
    exact ⟨x, by simpa using h1, h2⟩

theorem vr_ptr0 {m' : Mp} {n b : Nat} (hm : m' n = some (b, 0)) : VR m' (ptr n 0) (.pointer (some ⟨b, 0, none⟩)) := by
  have : VR m' (.pointer (some ⟨n, 0, none⟩)) (.pointer (some ⟨b, 0 + 0, none⟩)) := .ptr hm
  exact this

theorem box_new {v v' : Value} (hv : VR m v v') (t : TypeId) :
    NewN P m w h (Instr.box t v') (ptr h.next 0) (h.new (.cells (vcells v) false)) :=
  ⟨_, fun n => ptr n 0, rfl, rfl, rfl, .cells v'.cells t (0, 0), fun b => .pointer (some ⟨b, 0, none⟩), by simp [Instr.box, newVar, newRow], or_cells (by rw [vcells_cells]; exact hv.vcells) t, fun m' n b hm => vr_ptr0 hm⟩

theorem alloc_new (hE : E.Types P) {t : TypeId} {z : Value} (hz : zeroOf E t = some z) :
    NewN P m w h (Instr.alloc t true (.tuple #[])) (ptr h.next 0) (h.new (.cells (vcells z) false)) := by
  obtain ⟨h1, h2⟩ := zeroOf_run hE hz w
  exact ⟨_, fun n => ptr n 0, rfl, rfl, rfl, .cells z.cells t (0, 0), fun b => .pointer (some ⟨b, 0, none⟩), by simp [Instr.alloc, newVar, newRow, h1], or_cells (by rw [vcells_cells]; exact (flatV_VR 10 z h2).vcells) t, fun m' n b hm => vr_ptr0 hm⟩

theorem buildSlice_new (hE : E.Types P) {t len : Nat} {ps : Array (Nat × Operand)} {r r' : Operand → Value} {v : Value} {h' : AH} (hps : ∀ p ∈ ps.toList, VR m (r p.2) (r' p.2))
    (e : E.buildSlice t len (partsOf r ps) h = some (v, h')) : NewN P m w h (Instr.buildSlice t len (ps.map fun (i, x) => (i, r' x))) v h' := by
  unfold Env.buildSlice at e
  split at e
  · rename_i el hu
    split at e
    · rename_i i hty
      split at e
      · rename_i z hz
        cases hb : (Nat.ble (len * i.size) 16777216 && Nat.beq (vcells z).length i.size && Nat.ble 1 i.size) with
        | false => rw [hb] at e; cases e
        | true =>
          rw [hb] at e
          simp only [cond_true] at e
          rw [Bool.and_eq_true, Bool.and_eq_true] at hb
          obtain ⟨⟨b1, b2⟩, b3⟩ := hb
          have b1 := Nat.le_of_ble_eq_true b1
          have b2 := Nat.eq_of_beq_eq_true b2
          have b3 := Nat.le_of_ble_eq_true b3
          have hzf := (hE.zero _ _ _ hty hz)
          have hzr := run_zero hE hty hz w
          unfold newSlice at e
          split at e
          · rename_i cs hcs
            cases e
            have hzs : z.cells.size = i.size := by rw [← b2, ← vcells_cells]; simp
            have hrep : VRs m (rep len (vcells z)) (((Array.range (len * i.size)).map fun k => z.cells[k % z.cells.size]!) : Array Value).toList := by
              have := zeros_rep z.cells len i.size hzs b3
              rw [this, vcells_cells]
              exact (flatV_VR 10 z hzf.1).vcells.rep len
            obtain ⟨out', h1, h2⟩ := fill_sound (m := m) (place' := fun k => some (k * i.size, i.size)) (fun k p hp => hp) (fun p : Nat × Operand => p.1) (fun p => r p.2) (fun p => r' p.2) ps.toList _ _ cs hps hcs hrep
            refine ⟨_, fun n => .slice (some ⟨n, 0, none⟩) len len, rfl, rfl, rfl, .cells out' el (0, 0), fun b => .slice (some ⟨b, 0, none⟩) len len, ?_, or_cells h2 el, fun m' n b hm => .sliceExact (d := 0) hm (fun _ => rfl) (Nat.le_refl _)⟩
            simp only [Instr.buildSlice, Sem.run_bind, run_und hE hu, Result.andThen_ok, run_size hE hty]
            rw [if_neg (by omega)]
            by_cases h0 : len * i.size = 0
            · have hl0 : len = 0 := by
                rcases Nat.mul_eq_zero.1 h0 with h | h
                · exact h
                · omega
              subst hl0
              simp only [Nat.zero_mul, Array.range_zero', Array.map_empty] at h1 ⊢
              simp [h1, newRow]
            · rw [if_neg h0]
              simp only [Sem.run_bind, hzr, Result.andThen_ok, Sem.run_pure, Array.toList_map, h1, newRow, run_newObj, World.alloc_eq]
          · cases e
      · cases e
    · cases e
  · cases e

theorem makeSlice_new (hE : E.Types P) {t : Nat} {kl kc : IntKind} {len cap : Int} {v : Value} {h' : AH} (e : E.makeSlice t len cap h = some (v, h')) :
    NewN P m w h (Instr.makeSlice t (.int kl len) (.int kc cap)) v h' := by
  unfold Env.makeSlice at e
  split at e
  · rename_i el hu
    split at e
    · rename_i i hty
      split at e
      · rename_i z hz
        cases hb : (ile 0 len && ile len cap && ile cap 9223372036854775807 && ile (.ofNat i.bytes * cap) 281474976710656 && Nat.beq (vcells z).length i.size && Nat.ble 1 i.size) with
        | false => rw [hb] at e; cases e
        | true =>
          rw [hb] at e
          simp only [cond_true, Option.some.injEq, Prod.mk.injEq] at e
          obtain ⟨rfl, rfl⟩ := e
          simp only [Bool.and_eq_true, ile_eq, decide_eq_true_iff] at hb
          obtain ⟨⟨⟨⟨⟨b1, b2⟩, b3⟩, b4⟩, b5⟩, b6⟩ := hb
          have b5 := Nat.eq_of_beq_eq_true b5
          have b6 := Nat.le_of_ble_eq_true b6
          have b4 : (i.bytes : Int) * cap ≤ 281474976710656 := b4
          have hzf := (hE.zero _ _ _ hty hz)
          have hzr := run_zero hE hty hz w
          obtain ⟨inf, hi1, hi2, hi3, hi4, hi5, hi6⟩ := run_info hE hty w
          have hzs : z.cells.size = i.size := by rw [← b5, ← vcells_cells]; simp
          have hrep : VRs m (rep cap.toNat (vcells z)) (((Array.range (cap.toNat * i.size)).map fun k => z.cells[k % z.cells.size]!) : Array Value).toList := by
            have := zeros_rep z.cells cap.toNat i.size hzs b6
            rw [this, vcells_cells]
            exact (flatV_VR 10 z hzf.1).vcells.rep _
          refine ⟨_, fun n => .slice (some ⟨n, 0, none⟩) len.toNat cap.toNat, rfl, rfl, rfl, .cells _ el (0, 0), fun b => .slice (some ⟨b, 0, none⟩) len.toNat cap.toNat, ?_, or_cells hrep el, fun m' n b hm => .sliceExact (d := 0) hm (fun _ => rfl) (by omega)⟩
          have hmul : (i.bytes : Int) * len ≤ 281474976710656 := Int.le_trans (Int.mul_le_mul_of_nonneg_left b2 (Int.natCast_nonneg _)) b4
          simp only [Instr.makeSlice, Sem.run_bind, run_und hE hu, Result.andThen_ok, asInt, asIntOf, Sem.run_pure, hi1, hi3]
          rw [wrap_id len b1 (by omega), wrap_id cap (by omega) b3]
          have hc : ((decide (cap < 0) || decide ((i.bytes : Int) * cap > 2 ^ 48)) || decide (len < 0) || decide (len > cap)) = false := by
            simp only [Bool.or_eq_false_iff, decide_eq_false_iff_not]
            refine ⟨⟨⟨by omega, ?_⟩, by omega⟩, by omega⟩
            have : (2 : Int) ^ 48 = 281474976710656 := by decide
            rw [this]; omega
          rw [hc]
          simp only [Bool.false_eq_true, if_false, Sem.run_bind, run_askRoom, Result.andThen_ok, run_size hE hty]
          by_cases h0 : cap.toNat * i.size = 0
          · have hl0 : cap.toNat = 0 := by
              rcases Nat.mul_eq_zero.1 h0 with h | h
              · exact h
              · omega
            rw [if_pos h0]
            simp [hl0, newRow, Array.range_zero']
          · rw [if_neg h0]
            simp only [Sem.run_bind, hzr, Result.andThen_ok, Sem.run_pure, newRow, run_newObj, World.alloc_eq]
      · cases e
    · cases e
  · cases e


theorem map_new (hE : E.Types P) {t : Nat} {x x' : Option Value} {v : Value} {h' : AH} (e : opMap E t x h = .val v h') (hx : VRo m x x') : NewN P m w h (Instr.makeMap t x') v h' := by
  have fin : ∀ s : Sem Value, s.run P w = .ok (.map (some w.heap.size)) { w with heap := w.heap.push (.map #[] 0) } → NewN P m w h s (.map (some h.next)) (h.new (.map [] 0)) := by
    intro s hs
    exact ⟨_, fun n => .map (some n), rfl, rfl, rfl, .map #[] 0, fun b => .map (some b), hs, .map rfl rfl (fun i a b ha => by simp at ha), fun m' n b hm => .map hm⟩
  unfold opMap at e
  cases x with
  | none =>
    have : x' = none := by cases x' with
      | none => rfl
      | some y => cases hx
    subst this
    cases e
    exact fin _ (by simp [Instr.makeMap])
  | some y =>
    cases x' with
    | none => cases hx
    | some y' =>
      have hy : VR m y y' := hx
      simp only at e
      split at e
      · rename_i kt et k n hu
        rw [hy.int_inv]
        cases e
        refine fin _ ?_
        simp [Instr.makeMap, run_und hE hu, asInt, asIntOf]
      · cases e

/-- related operands -/
def RR (m : Mp) (r r' : Operand → Value) : Prop := ∀ x, okX x = true → VR m (r x) (r' x)

theorem RR.list {r r' : Operand → Value} (hr : RR m r r') : ∀ (l : List Operand), l.all okX = true → VRs m (l.map r) (l.map r') := by
  intro l
  induction l with
  | nil => intro _; exact .nil
  | cons a as ih =>
    intro h
    simp only [List.all_cons, Bool.and_eq_true] at h
    exact .cons (hr a h.1) (ih h.2)

theorem RR.opt {r r' : Operand → Value} (hr : RR m r r') (x : Option Operand) (h : x.toList.all okX = true) : VRo m (x.map r) (x.map r') := by
  cases x with
  | none => trivial
  | some x => exact hr x (by simpa using h)

/-- an allocation -/
theorem alloc_op (hE : E.Types P) {r r' : Operand → Value} {o : Oper} {v : Value} {h' : AH} (hc : cls o.op = .alloc) (e : E.op r o.op h = .val v h') (hok : okOp o.op = true) (hrr : RR m r r') :
    ∃ s, execOp r' o = (do pure (.value (← s))) ∧ NewN P m w h s v h' := by
  obtain ⟨dst, op, type, pos, after, guard⟩ := o
  simp only at hc e hok ⊢
  cases op with
  | alloc t =>
    simp only [Env.op, opAlloc] at e
    split at e
    · rename_i z hz
      cases e
      exact ⟨_, rfl, alloc_new hE hz⟩
    · cases e
  | box t x =>
    cases e
    exact ⟨_, rfl, box_new (hrr x hok) t⟩
  | buildSlice t len ps =>
    simp only [Env.op] at e
    cases hb : E.buildSlice t len (partsOf r ps) h with
    | none => rw [hb] at e; cases e
    | some p =>
      obtain ⟨v1, h1⟩ := p
      rw [hb] at e; cases e
      simp only [okOp, List.all_eq_true] at hok
      exact ⟨_, rfl, buildSlice_new hE (fun p hp => hrr p.2 (hok p hp)) hb⟩
  | makeMap t x =>
    refine ⟨_, rfl, map_new hE e ?_⟩
    cases x with
    | none => trivial
    | some y => exact hrr y hok
  | makeSlice t l c =>
    simp only [Env.op, opMake] at e
    simp only [okOp, Bool.and_eq_true] at hok
    split at e
    · rename_i kl len kc cap hl hcp
      have h1 := hrr l hok.1
      have h2 := hrr c hok.2
      rw [hl] at h1
      rw [hcp] at h2
      cases hb : E.makeSlice t len cap h with
      | none => rw [hb] at e; cases e
      | some p =>
        obtain ⟨v1, h3⟩ := p
        rw [hb] at e; cases e
        refine ⟨_, rfl, ?_⟩
        rw [h1.int_inv, h2.int_inv]
        exact makeSlice_new hE hb
    · cases e
  | call c =>
    simp only [cls] at hc
    split at hc
    · rename_i b _
      cases b <;> cases hc
    · cases hc
  | _ => cases hc

end Go.Ev
