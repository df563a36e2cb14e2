/- A part of a big-step evaluator of the model's language, with the proof that what it comes to, the model comes to for every tape. No conditions. -/
import Derived.Test.YtpncmonojhlheaaGreatEvRel
import Derived.Laws.Cells
namespace Go.Ev

variable {P : Program}

theorem add_none (b o n : Nat) : (Addr.mk b o none).add n = ⟨b, o + n, none⟩ := by
  unfold Addr.add; split
  · rename_i h; subst h; rfl
  · rfl

theorem cells_get {h : AH} {b : Nat} {c : List Value} (e : h.cells b = some c) : ∃ ro, h.get b = some (.cells c ro) := by
  unfold AH.cells at e
  split at e
  · rename_i c' ro hg; cases e; exact ⟨ro, hg⟩
  · cases e
theorem wcells_get {h : AH} {b : Nat} {c : List Value} (e : h.wcells b = some c) : h.get b = some (.cells c false) := by
  unfold AH.wcells at e
  split at e
  · rename_i c' ro hg
    cases ro
    · cases e; exact hg
    · cases e
  · cases e

theorem rep_cells {m : Mp} {h : AH} {w : World} (hr : Rep m h w) {n b d : Nat} {c : List Value} {ro : Bool} (hg : h.get n = some (.cells c ro)) (hm : m n = some (b, d)) :
    ∃ c' e fz, w.heap[b]? = some (.cells c' e fz) ∧ (ro = false → fz = (0, 0)) ∧ d + c.length ≤ c'.size ∧ ∀ (i : Nat) (v : Value), c[i]? = some v → ∃ w, c'[d + i]? = some w ∧ VR m v w := by
  obtain ⟨b', d', x, h1, h2, h3⟩ := hr.obj n _ hg
  rw [hm] at h1; cases h1
  cases h3 with
  | cells hz hl h => exact ⟨_, _, _, h2, hz, hl, h⟩

theorem cell_at {m : Mp} {h : AH} {w : World} (hr : Rep m h w) {n b d : Nat} {c : List Value} {ro : Bool} (hg : h.get n = some (.cells c ro)) (hm : m n = some (b, d)) {i : Nat} {v : Value} (hi : c[i]? = some v) :
    ∃ v', w.cell? ⟨b, d + i, none⟩ = some v' ∧ VR m v v' := by
  obtain ⟨c', e, fz, h1, h2, h3, h4⟩ := rep_cells hr hg hm
  obtain ⟨v', h5, h6⟩ := h4 i v hi
  exact ⟨v', by simp [World.cell?, h1, h5], h6⟩

/-- a live object's place -/
theorem rep_map {m : Mp} {h : AH} {w : World} (hr : Rep m h w) {n : Nat} {o : AObj} (hg : h.get n = some o) : ∃ b d, m n = some (b, d) := by
  obtain ⟨b, d, x, h1, _⟩ := hr.obj n o hg
  exact ⟨b, d, h1⟩

theorem load1_sound {m : Mp} {h : AH} {w : World} (hr : Rep m h w) {n b d o : Nat} {v : Value} (e : h.load1 n o = some v) (hm : m n = some (b, d)) :
    ∃ v', (load ⟨b, d + o, none⟩).run P w = .ok v' w ∧ VR m v v' := by
  unfold AH.load1 at e
  split at e
  · rename_i c hc
    obtain ⟨ro, hg⟩ := cells_get hc
    rw [nth_eq] at e
    obtain ⟨v', h1, h2⟩ := cell_at hr hg hm e
    exact ⟨v', by simp [h1], h2⟩
  · cases e

theorem loadN_sound' {m : Mp} {h : AH} {w : World} (hr : Rep m h w) {n b d o k : Nat} {l : List Value} (e : h.loadN n o k = some l) (hm : m n = some (b, d)) :
    ∃ l', (∀ w1 : World, w1.heap = w.heap → (loadCells ⟨b, d + o, none⟩ k).run P w1 = .ok l'.toArray w1) ∧ VRs m l l' ∧ l.length = k := by
  unfold AH.loadN at e
  split at e
  · rename_i c hc
    obtain ⟨ro, hg⟩ := cells_get hc
    cases hle : Nat.ble (o + k) c.length with
    | false => rw [hle] at e; cases e
    | true =>
      rw [hle] at e
      simp only [cond_true, Option.some.injEq] at e
      have hle' := Nat.le_of_ble_eq_true hle
      obtain ⟨c', e', fz, h1, h2, h3, h4⟩ := rep_cells hr hg hm
      have hlen : l.length = k := by rw [← e]; simp; omega
      have hlen' : ((c'.toList.drop (d + o)).take k).length = k := by
        simp; omega
      refine ⟨(c'.toList.drop (d + o)).take k, ?_, ⟨by rw [hlen, hlen'], ?_⟩, hlen⟩
      · intro w1 hw1
        have := run_loadCells_list (P := P) (w := w1) ⟨b, d + o, none⟩ ((c'.toList.drop (d + o)).take k) (by
          intro j v hj
          rw [List.getElem?_take] at hj
          split at hj
          · rw [add_none]
            simp only [List.getElem?_drop, Array.getElem?_toList] at hj
            simp [World.cell?, hw1, h1, hj]
          · cases hj)
        rw [hlen'] at this
        exact this
      · intro i v v' hi hi'
        rw [← e, List.getElem?_take] at hi
        rw [List.getElem?_take] at hi'
        split at hi
        · rename_i hik
          rw [if_pos hik] at hi'
          rw [List.getElem?_drop] at hi hi'
          obtain ⟨x, hx, hvr⟩ := h4 (o + i) v hi
          rw [Array.getElem?_toList, show d + o + i = d + (o + i) from by omega, hx] at hi'
          cases hi'
          exact hvr
        · cases hi
  · cases e

theorem loadN_sound {m : Mp} {h : AH} {w : World} (hr : Rep m h w) {n b d o k : Nat} {l : List Value} (e : h.loadN n o k = some l) (hm : m n = some (b, d)) :
    ∃ l', (loadCells ⟨b, d + o, none⟩ k).run P w = .ok l'.toArray w ∧ VRs m l l' ∧ l.length = k := by
  obtain ⟨l', h1, h2⟩ := loadN_sound' (P := P) hr e hm
  exact ⟨l', h1 w rfl, h2⟩

theorem nofreeze {w : World} {b : Nat} {c : Array Value} {e : TypeId} (h : w.heap[b]? = some (.cells c e (0, 0))) (o : Nat) : w.frozen? ⟨b, o, none⟩ = false := by
  simp [World.frozen?, h]

theorem storeCells_run (b o : Nat) : ∀ (l : List Value) (i : Nat) (w : World) (c : Array Value) (e : TypeId), w.heap[b]? = some (.cells c e (0, 0)) → o + i + l.length ≤ c.size →
    (∀ v ∈ l, v.oneCell' = true) → ∃ w' c', (storeCells ⟨b, o, none⟩ l i).run P w = .ok () w' ∧ w'.heap.size = w.heap.size ∧ w'.heap[b]? = some (.cells c' e (0, 0)) ∧ c'.size = c.size ∧
      (∀ j, c'[j]? = if o + i ≤ j ∧ j < o + i + l.length then l[j - (o + i)]? else c[j]?) ∧ (∀ k, k ≠ b → w'.heap[k]? = w.heap[k]?) ∧ w'.tape = w.tape ∧ w'.os = w.os ∧ w'.output = w.output := by
  intro l
  induction l with
  | nil =>
    intro i w c e hb hl hv
    refine ⟨w, c, rfl, rfl, hb, rfl, fun j => ?_, fun _ _ => rfl, rfl, rfl, rfl⟩
    rw [if_neg (by simp only [List.length_nil]; omega)]
  | cons v r ih =>
    intro i w c e hb hl hv
    simp only [List.length_cons] at hl
    have hbl : b < w.heap.size := by
      rcases Nat.lt_or_ge b w.heap.size with h | h
      · exact h
      · rw [Array.getElem?_eq_none h] at hb; cases hb
    have hoc : o + i < c.size := by omega
    have hcell : w.cell? ⟨b, o + i, none⟩ = some c[o + i] := by simp [World.cell?, hb, hoc]
    have hw1 : (w.setCell ⟨b, o + i, none⟩ v).heap[b]? = some (.cells (c.setIfInBounds (o + i) v) e (0, 0)) := by
      simp only [World.setCell]; rw [Array.getElem?_modify, if_pos rfl, hb]; rfl
    obtain ⟨w', c', h1, h2, h3, h4, h5, h6, h7, h8, h9⟩ := ih (i + 1) (w.setCell ⟨b, o + i, none⟩ v) (c.setIfInBounds (o + i) v) e hw1 (by simp; omega) (fun x hx => hv x (List.mem_cons_of_mem _ hx))
    refine ⟨w', c', ?_, by rw [h2, World.size_setCell], h3, by rw [h4]; simp, ?_, ?_, by rw [h7]; rfl, by rw [h8]; rfl, by rw [h9]; rfl⟩
    · rw [storeCells, Sem.run_bind, add_none, run_store P w _ v _ (hv v List.mem_cons_self), hcell]
      simp only [nofreeze hb, Bool.false_eq_true, if_false, Result.andThen_ok]
      exact h1
    · intro j
      rw [h5 j]
      simp only [List.length_cons]
      by_cases hj : j = o + i
      · subst hj
        rw [if_neg (by omega), if_pos (by omega)]
        simp [hoc]
      · by_cases hj2 : o + (i + 1) ≤ j ∧ j < o + (i + 1) + r.length
        · rw [if_pos hj2, if_pos (by omega), show j - (o + i) = (j - (o + (i + 1))) + 1 from by omega]
          simp
        · rw [if_neg hj2, if_neg (by omega), Array.getElem?_setIfInBounds_ne (by omega)]
    · intro k hk
      rw [h6 k hk]
      simp only [World.setCell]
      rw [Array.getElem?_modify, if_neg (Ne.symm hk)]

theorem VRs.all_cell {m : Mp} {l l' : List Value} (h : VRs m l l') (ha : l.all isCell = true) : ∀ v ∈ l', v.oneCell' = true := by
  intro v hv
  obtain ⟨i, hi⟩ := List.getElem?_of_mem hv
  have hil : i < l.length := by
    have h1 := h.1
    rcases Nat.lt_or_ge i l'.length with h | h
    · omega
    · rw [List.getElem?_eq_none h] at hi; cases hi
  have hx := List.getElem?_eq_getElem hil
  have := h.2 i _ v hx hi
  rw [List.all_eq_true] at ha
  exact this.oneCell (ha _ (List.getElem_mem hil))

theorem storeN_sound {m : Mp} {h h' : AH} {w : World} (hr : Rep m h w) {n b d o : Nat} {l l' : List Value} (e : h.storeN n o l = some h') (hm : m n = some (b, d)) (hl : VRs m l l') :
    ∃ w', (storeCells ⟨b, d + o, none⟩ l').run P w = .ok () w' ∧ Goes m h w m h' w' := by
  unfold AH.storeN at e
  split at e
  · rename_i c hc
    have hg := wcells_get hc
    cases hle : (Nat.ble (o + l.length) c.length && l.all isCell) with
    | false => rw [hle] at e; cases e
    | true =>
      rw [hle] at e
      simp only [cond_true, Option.some.injEq] at e
      rw [Bool.and_eq_true] at hle
      obtain ⟨hle, hall⟩ := hle
      have hle := Nat.le_of_ble_eq_true hle
      obtain ⟨c', e', fz, h1, h2, h3, h4⟩ := rep_cells hr hg hm
      have hz := h2 rfl
      subst hz
      have hlen := hl.1
      obtain ⟨w', c'', r1, r2, r3, r4, r5, r6, r7, r8, r9⟩ := storeCells_run (P := P) b (d + o) l' 0 w c' e' h1 (by omega) (hl.all_cell hall)
      refine ⟨w', r1, ?_⟩
      subst e
      refine Goes.put hr hg hm (.cells (fun _ => rfl) ?_ ?_) (fun c e fz hx => by cases hx; rw [r4]; exact hr.sized _ _ _ _ _ _ _ hg hm h1) r2 r3 r6 r7 r8 r9
      · rw [r4]; simp; omega
      · intro i v hi
        rw [r5]
        simp only [Nat.add_zero]
        have hto : (c.take o).length = o := by simp; omega
        by_cases hio : i < o
        · rw [List.getElem?_append_left (by omega), List.getElem?_take, if_pos hio] at hi
          rw [if_neg (by omega)]
          exact h4 i v hi
        · rw [List.getElem?_append_right (by omega), hto] at hi
          by_cases hil : i - o < l.length
          · rw [List.getElem?_append_left hil] at hi
            rw [if_pos (by omega)]
            obtain ⟨x, hx, hvr⟩ := hl.get hi
            exact ⟨x, by rw [show d + i - (d + o) = i - o from by omega]; exact hx, hvr⟩
          · rw [List.getElem?_append_right (by omega), List.getElem?_drop] at hi
            rw [if_neg (by omega)]
            exact h4 i v (by rw [show i = o + l.length + (i - o - l.length) from by omega]; exact hi)
  · cases e

theorem store1_sound {m : Mp} {h h' : AH} {w : World} (hr : Rep m h w) {n b d o : Nat} {v v' : Value} (e : h.store1 n o v = some h') (hm : m n = some (b, d)) (hv : VR m v v') :
    ∃ w', (storeCells ⟨b, d + o, none⟩ [v']).run P w = .ok () w' ∧ Goes m h w m h' w' := by
  unfold AH.store1 at e
  split at e
  · rename_i c hc
    have hg := wcells_get hc
    cases hle : (Nat.blt o c.length && isCell v) with
    | false => rw [hle] at e; cases e
    | true =>
      rw [hle] at e
      simp only [cond_true, Option.some.injEq] at e
      rw [Bool.and_eq_true] at hle
      obtain ⟨hlt, hcell⟩ := hle
      have hlt : o < c.length := by
        have := Nat.le_of_ble_eq_true hlt; omega
      obtain ⟨c', e', fz, h1, h2, h3, h4⟩ := rep_cells hr hg hm
      have hz := h2 rfl
      subst hz
      obtain ⟨w', c'', r1, r2, r3, r4, r5, r6, r7, r8, r9⟩ := storeCells_run (P := P) b (d + o) [v'] 0 w c' e' h1 (by simp; omega) (by simp; exact hv.oneCell hcell)
      refine ⟨w', r1, ?_⟩
      subst e
      rw [setN_eq]
      refine Goes.put hr hg hm (.cells (fun _ => rfl) ?_ ?_) (fun c e fz hx => by cases hx; rw [r4]; exact hr.sized _ _ _ _ _ _ _ hg hm h1) r2 r3 r6 r7 r8 r9
      · rw [r4]; simp; omega
      · intro i x hi
        rw [r5]
        simp only [Nat.add_zero, List.length_cons, List.length_nil]
        by_cases hio : o = i
        · subst hio
          rw [List.getElem?_set_self hlt] at hi
          cases hi
          rw [if_pos (by omega)]
          exact ⟨v', by simp, hv⟩
        · rw [List.getElem?_set_ne hio] at hi
          rw [if_neg (by omega)]
          exact h4 i x hi
  · cases e

end Go.Ev
