/- A part of a big-step evaluator of the model's language, with the proof that what it comes to, the model comes to for every tape. No conditions. -/
import Derived.Test.YtpncmonojhlheaaGreatEvOps10
namespace Go.Ev

variable {P : Program} {E : Env} {m : Mp} {h : AH} {w : World}

-- maps

theorem flatKey_VR : ∀ (n : Nat) (v v' : Value), flatKey n v = true → VR m v v' → v' = v := by
  intro n
  induction n with
  | zero =>
    intro v v' h hv
    cases v with
    | int k n => exact hv.int_inv
    | string s => exact hv.string_inv
    | bool b => exact hv.bool_inv
    | _ => simp [flatKey] at h
  | succ n ih =>
    intro v v' h hv
    cases v with
    | int k n => exact hv.int_inv
    | string s => exact hv.string_inv
    | bool b => exact hv.bool_inv
    | agg cs =>
      obtain ⟨ds, rfl, hvs⟩ := hv.agg_inv
      have h : cs.toList.all (flatKey n) = true := h
      rw [List.all_eq_true] at h
      have : ds.toList = cs.toList := by
        apply List.ext_getElem?
        intro i
        cases hc : cs.toList[i]? with
        | none => exact hvs.get_none hc
        | some x =>
          obtain ⟨y, h1, h2⟩ := hvs.get hc
          rw [h1, ih x y (h x (List.mem_of_getElem? hc)) h2]
      congr 1
      apply Array.ext'
      exact this
    | _ => simp [flatKey] at h

theorem part_same (hE : E.Types P) {t o : Nat} {cs : Array Value} {v : Value} (e : E.part t cs.toList o = some v) (w : World) : (part t cs o).run P w = .ok v w := by
  unfold Env.part at e
  split at e
  · rename_i i hi
    unfold partT at e
    simp only [part, Sem.run_bind, run_isAgg hE hi, Result.andThen_ok]
    split at e
    · rename_i hag
      rw [hag]
      cases e
      have : (cs.extract o (o + i.size)) = ((cs.toList.drop o).take i.size).toArray := by
        apply Array.ext'
        simp [Array.toList_extract]
      simp [run_size hE hi, this]
    · rename_i hag
      rw [hag]
      rw [nth_eq, Array.getElem?_toList] at e
      simp [e]
  · cases e

theorem keyOk_sound (hE : E.Types P) : ∀ (n t : Nat) (v : Value), E.keyOk n t v = true → ∀ (D : Nat) (b : Bool), n ≤ D → (Instr.checkKey b D t v).run P w = .ok () w := by
  intro n
  induction n with
  | zero => intro t v h; cases h
  | succ n ih =>
    intro t v e D b hD
    obtain ⟨D, rfl⟩ : ∃ k, D = k + 1 := ⟨D - 1, by omega⟩
    simp only [Env.keyOk] at e
    split at e
    · rename_i fs cs hu
      rw [List.all_eq_true] at e
      simp only [Instr.checkKey, Sem.run_bind, run_und hE hu, Result.andThen_ok]
      rw [← Array.forIn_toList]
      generalize fs.toList = l at e
      clear hu
      induction l with
      | nil => simp
      | cons f l ihl =>
        have hf := e f List.mem_cons_self
        have hrest := ihl fun g hg => e g (List.mem_cons_of_mem _ hg)
        simp only [List.forIn_cons, Sem.run_bind, Sem.run_ite]
        split at hf
        · rename_i p hp
          rw [part_same hE hp w]
          rw [Bool.or_eq_true, beq_iff_eq] at hf
          by_cases hn : f.name = "_"
          · simp only [hn, ne_eq, not_true_eq_false, if_false, Sem.run_pure, Result.andThen_ok]
            exact hrest
          · have := ih f.type p (by rcases hf with h | h; exact absurd h hn; exact h) D b (by omega)
            simp only [ne_eq, hn, not_false_eq_true, if_true, Result.andThen_ok, this, Sem.run_pure]
            exact hrest
        · cases hf
    · rename_i k q n hu
      simp only [Instr.checkKey, Sem.run_bind, run_und hE hu, Result.andThen_ok]; rfl
    · rename_i s hu
      simp only [Instr.checkKey, Sem.run_bind, run_und hE hu, Result.andThen_ok]; rfl
    · rename_i s hu
      simp only [Instr.checkKey, Sem.run_bind, run_und hE hu, Result.andThen_ok]; rfl
    · cases e

end Go.Ev
