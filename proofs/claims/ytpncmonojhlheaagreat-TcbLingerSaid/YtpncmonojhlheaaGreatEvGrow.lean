/- A part of a big-step evaluator of the model's language, with the proof that what it comes to, the model comes to for every tape. No conditions. -/
import Derived.Test.YtpncmonojhlheaaGreatEvSym
namespace Go.Ev
open Go.RowKit

variable {P : Program} {m : Mp} {h : AH} {w w' : World}

/-- what was done turned nothing that was there, and is not seen -/
theorem Goes.grown (hr : Rep m h w) (hb : Below w.heap.size w w') : Goes m h w m h w' := by
  refine ⟨.refl m, ⟨hr.fresh, fun n b d e => Nat.lt_of_lt_of_le (hr.inside n b d e) hb.size, fun n o e => ?_, hr.apart, fun n o b d c e fz hg hm hx => ?_⟩, fun b hh => .inr hh, hb.size, fun b hlt _ => hb.block b hlt, Nat.le_refl _, fun _ _ => rfl, fun b c e f hlt hh => ?_, hb.tape, hb.os, hb.output, fun n c b d e1 e2 => ⟨e1, hb.block b (hr.inside n b d e2)⟩⟩
  · obtain ⟨b, d, x, h1, h2, h3⟩ := hr.obj n o e
    exact ⟨b, d, x, h1, by rw [hb.block b (hr.inside n b d h1)]; exact h2, h3⟩
  · rw [hb.block b (hr.inside n b d hm)] at hx
    exact hr.sized n o b d c e fz hg hm hx
  · rw [hb.block b hlt] at hh; exact .inr ⟨c, e, hh⟩

/-- .. but for one new block -/
theorem Goes.grown_new (hr : Rep m h w) (hb : Below w.heap.size w w') {g : Nat} {c : Array Value} {e : TypeId} {l : List Value} (hg : w.heap.size ≤ g) (hx : w'.heap[g]? = some (.cells c e (0, 0)))
    (ho : OR (upd m h.next (g, 0) c.size) 0 (.cells l false) (.cells c e (0, 0))) : Goes m h w (upd m h.next (g, 0) c.size) (h.new (.cells l false)) w' := by
  have hf := (hr.fresh h.next (Nat.le_refl _)).1
  have hno : ∀ k d, m k = some (g, d) → False := fun k d e => by have := hr.inside k _ _ e; omega
  have he : Ext m (upd m h.next (g, 0) c.size) := ext_upd hf (fun k d e => (hno k d e).elim)
  have hlt : g < w'.heap.size := (Array.getElem?_eq_some_iff.1 hx).1
  refine ⟨he, ⟨?_, ?_, ?_, ?_, ?_⟩, ?_, hb.size, fun b hlt _ => hb.block b hlt, by rw [AH.next_new]; omega, fun n hn => upd_ne _ _ _ (by omega), fun b c e f hlt hh => ?_, hb.tape, hb.os, hb.output, fun n c b d e1 e2 => ?_⟩
  · intro n hn
    rw [AH.next_new] at hn
    rw [AH.get_new, if_neg (by omega), upd_ne _ _ _ (by omega)]
    exact hr.fresh n (by omega)
  · intro n b d e
    by_cases hn : n = h.next
    · subst hn; rw [upd_self] at e; cases e; exact hlt
    · rw [upd_ne _ _ _ hn] at e; exact Nat.lt_of_lt_of_le (hr.inside n b d e) hb.size
  · intro n p e
    rw [AH.get_new] at e
    split at e
    · rename_i hn; cases e; subst hn
      exact ⟨g, 0, _, upd_self .., hx, ho⟩
    · rename_i hn
      obtain ⟨b, d, y, h1, h2, h3⟩ := hr.obj n p e
      exact ⟨b, d, y, he.at_ _ _ h1, by rw [hb.block b (hr.inside n b d h1)]; exact h2, h3.mono he⟩
  · intro n n' p p' b d d' e e' h1 h2
    rw [AH.get_new] at e e'
    split at e <;> split at e'
    · omega
    · rename_i hn hn'
      subst hn; rw [upd_self] at h1; rw [upd_ne _ _ _ hn'] at h2; cases h1
      exact (hno _ _ h2).elim
    · rename_i hn hn'
      subst hn'; rw [upd_self] at h2; rw [upd_ne _ _ _ hn] at h1; cases h2
      exact (hno _ _ h1).elim
    · rename_i hn hn'
      rw [upd_ne _ _ _ hn] at h1; rw [upd_ne _ _ _ hn'] at h2
      exact hr.apart n n' p p' b d d' e e' h1 h2
  · intro n o' b d c' e' fz hgt hm hbk
    rw [AH.get_new] at hgt
    split at hgt
    · rename_i hn; subst hn
      rw [upd_self] at hm; cases hm
      rw [hx] at hbk; cases hbk
      show c.size = (if g = g then c.size else _)
      rw [if_pos rfl]
    · rename_i hn
      rw [upd_ne _ _ _ hn] at hm
      have hl := hr.inside n b d hm
      rw [hb.block b hl] at hbk
      show c'.size = (if b = g then _ else m.sz b)
      rw [if_neg (by omega)]
      exact hr.sized n o' b d c' e' fz hgt hm hbk
  · rintro b ⟨n, p, d, e, e'⟩
    rw [AH.get_new] at e
    split at e
    · rename_i hn; subst hn; rw [upd_self] at e'; cases e'; exact .inl hg
    · rename_i hn; rw [upd_ne _ _ _ hn] at e'; exact .inr ⟨n, p, d, e, e'⟩
  · rw [hb.block b hlt] at hh; exact .inr ⟨c, e, hh⟩
  · refine ⟨?_, hb.block b (hr.inside n b d e2)⟩
    rw [AH.get_new, if_neg]
    · exact e1
    · rintro rfl; rw [(hr.fresh _ (Nat.le_refl _)).2] at e1; cases e1

end Go.Ev
