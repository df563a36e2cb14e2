/- A part of a big-step evaluator of the model's language, with the proof that what it comes to, the model comes to for every tape. No conditions. -/
import Derived.Test.YtpncmonojhlheaaGreatEvOps3
import Derived.Laws.StructEq
import Derived.Laws.BytesString
namespace Go.Ev

variable {P : Program} {E : Env} {m : Mp} {h : AH} {w : World}

-- filling

theorem zip_foldl_get (off : Nat) : ∀ (l : List Value) (k : Nat) (c : Array Value), off + k + l.length ≤ c.size →
    ((l.zipIdx k).foldl (fun cs (x : Value × Nat) => cs.setIfInBounds (off + x.2) x.1) c).size = c.size ∧
    ∀ j, ((l.zipIdx k).foldl (fun cs (x : Value × Nat) => cs.setIfInBounds (off + x.2) x.1) c)[j]? = if off + k ≤ j ∧ j < off + k + l.length then l[j - (off + k)]? else c[j]? := by
  intro l
  induction l with
  | nil =>
    intro k c _
    refine ⟨rfl, fun j => ?_⟩
    rw [if_neg (by simp only [List.length_nil]; omega)]; rfl
  | cons x r ih =>
    intro k c hl
    simp only [List.length_cons] at hl
    simp only [List.zipIdx_cons, List.foldl_cons]
    obtain ⟨h1, h2⟩ := ih (k + 1) (c.setIfInBounds (off + k) x) (by simp; omega)
    refine ⟨by rw [h1]; simp, fun j => ?_⟩
    rw [h2 j]
    simp only [List.length_cons]
    by_cases hj : j = off + k
    · subst hj
      rw [if_neg (by omega), if_pos (by omega)]
      have hlt : off + k < c.size := by omega
      simp [hlt]
    · by_cases hj2 : off + (k + 1) ≤ j ∧ j < off + (k + 1) + r.length
      · rw [if_pos hj2, if_pos (by omega), show j - (off + k) = (j - (off + (k + 1))) + 1 from by omega]
        simp
      · rw [if_neg hj2, if_neg (by omega), Array.getElem?_setIfInBounds_ne (by omega)]

theorem splice_get (l v : List Value) (off : Nat) (hl : off + v.length ≤ l.length) (j : Nat) :
    (l.take off ++ (v ++ l.drop (off + v.length)))[j]? = if off ≤ j ∧ j < off + v.length then v[j - off]? else l[j]? := by
  have hto : (l.take off).length = off := by simp; omega
  by_cases h1 : j < off
  · rw [if_neg (by omega), List.getElem?_append_left (by omega), List.getElem?_take, if_pos h1]
  · rw [List.getElem?_append_right (by omega), hto]
    by_cases h2 : j - off < v.length
    · rw [if_pos (by omega), List.getElem?_append_left h2]
    · rw [if_neg (by omega), List.getElem?_append_right (by omega), List.getElem?_drop, show off + v.length + (j - off - v.length) = j from by omega]

theorem foldl_splice (c : Array Value) (v : Array Value) (off : Nat) (hl : off + v.size ≤ c.size) :
    (v.zipIdx.foldl (fun cs (x : Value × Nat) => cs.setIfInBounds (off + x.2) x.1) c).toList = c.toList.take off ++ (v.toList ++ c.toList.drop (off + v.size)) := by
  rw [← Array.foldl_toList, Array.toList_zipIdx]
  obtain ⟨h1, h2⟩ := zip_foldl_get off v.toList 0 c (by simp; omega)
  apply List.ext_getElem?
  intro j
  have h3 := h2 j
  simp only [Nat.add_zero, Array.length_toList] at h3
  rw [Array.getElem?_toList, h3]
  have := splice_get c.toList v.toList off (by simp; omega) j
  simp only [Array.length_toList] at this
  rw [this]
  split <;> simp

theorem VRs.splice {l l' v v' : List Value} (h1 : VRs m l l') (h2 : VRs m v v') (off : Nat) : VRs m (l.take off ++ (v ++ l.drop (off + v.length))) (l'.take off ++ (v' ++ l'.drop (off + v'.length))) := by
  rw [← h2.1]
  exact (h1.take off).append (h2.append (h1.drop _))

theorem fill_sound {place place' : Nat → Option (Nat × Nat)} (hp : ∀ i p, place i = some p → place' i = some p) {α : Type} (idx : α → Nat) (r r' : α → Value) : ∀ (ps : List α) (cells : List Value) (cells' : Array Value) (out : List Value),
    (∀ p ∈ ps, VR m (r p) (r' p)) → fillParts place cells (ps.map fun p => (idx p, r p)) = some out → VRs m cells cells'.toList →
    ∃ out', Instr.fill place' cells' (ps.map fun p => (idx p, r' p)) = some out' ∧ VRs m out out'.toList := by
  intro ps
  induction ps with
  | nil => intro cells cells' out _ e hv; cases e; exact ⟨cells', rfl, hv⟩
  | cons p ps ih =>
    intro cells cells' out hr e hv
    simp only [List.map_cons, fillParts] at e
    split at e
    · rename_i off size hpl
      cases hb : (Nat.beq (vcells (r p)).length size && Nat.ble (off + size) cells.length) with
      | false => rw [hb] at e; cases e
      | true =>
        rw [hb] at e
        simp only [cond_true] at e
        rw [Bool.and_eq_true] at hb
        have b1 := Nat.eq_of_beq_eq_true hb.1
        have b2 := Nat.le_of_ble_eq_true hb.2
        have hvr := hr p List.mem_cons_self
        have hvc := hvr.vcells
        have hsz : (r' p).cells.size = size := by
          have := hvc.1; rw [← vcells_cells (r' p)] at this; simp at this; omega
        have hcs : cells'.size = cells.length := by have := hv.1; simp at this; omega
        subst b1
        have hfold := foldl_splice cells' (r' p).cells off (by omega)
        obtain ⟨out', h1, h2⟩ := ih _ ((r' p).cells.zipIdx.foldl (fun cs (x : Value × Nat) => cs.setIfInBounds (off + x.2) x.1) cells') out (fun q hq => hr q (List.mem_cons_of_mem _ hq)) e (by
          rw [hfold]
          have hvc' : VRs m (vcells (r p)) (r' p).cells.toList := by rw [vcells_cells]; exact hvc
          have := hv.splice hvc' off
          simp only [Array.length_toList] at this
          exact this)
        refine ⟨out', ?_, h2⟩
        simp only [List.map_cons, Instr.fill, hp _ _ hpl]
        rw [if_neg (by simp; omega)]
        exact h1
    · cases e

theorem run_mapM_array {α β : Type} (xs : Array α) (g : α → Sem β) (g' : α → β) (hg : ∀ x ∈ xs.toList, (g x).run P w = .ok (g' x) w) : (xs.mapM g).run P w = .ok (xs.map g') w := by
  rw [Array.mapM_eq_mapM_toList]
  have : ∀ l : List α, (∀ x ∈ l, (g x).run P w = .ok (g' x) w) → (l.mapM g).run P w = .ok (l.map g') w := by
    intro l
    induction l with
    | nil => intro _; rfl
    | cons x r ih =>
      intro hl
      simp only [List.mapM_cons, Sem.run_bind, hl x List.mem_cons_self, Result.andThen_ok, ih fun y hy => hl y (List.mem_cons_of_mem _ hy), Sem.run_pure, List.map_cons]
  simp only [Sem.run_map, this _ hg, Result.andThen_ok]
  congr 1
  apply Array.ext'; simp

theorem build_sound (hE : E.Types P) (hr : Rep m h w) {t : Nat} {ps : Array (Nat × Operand)} {r r' : Operand → Value} {v : Value} (hps : ∀ p ∈ ps.toList, VR m (r p.2) (r' p.2)) (e : E.build t (partsOf r ps) = some v) :
    Does P m h w (Instr.build t (ps.map fun (i, x) => (i, r' x))) v h := by
  unfold Env.build at e
  split at e
  · rename_i i hty
    split at e
    · rename_i z hz
      have hzf := (hE.zero _ _ _ hty hz)
      have hzr := run_zero hE hty hz w
      have hzv : VRs m (vcells z) z.cells.toList := by rw [vcells_cells]; exact (flatV_VR 10 z hzf.1).vcells
      split at e
      · rename_i fs hu
        cases hall : (fs.toList.all fun f => (E.ty f.type).isSome) with
        | false => rw [hall] at e; cases e
        | true =>
          rw [hall] at e
          simp only [cond_true, someAgg] at e
          split at e
          · rename_i cs hcs
            cases e
            have hplaces : (fs.mapM fun f => (do pure (f.offset, ← sizeOf f.type) : Sem (Nat × Nat))).run P w = .ok (fs.map fun f => (f.offset, match E.ty f.type with | some j => j.size | none => 0)) w := by
              apply run_mapM_array
              intro f hf
              rw [List.all_eq_true] at hall
              have := hall f hf
              obtain ⟨j, hj⟩ := Option.isSome_iff_exists.1 this
              simp [run_size hE hj, hj]
            obtain ⟨out', h1, h2⟩ := fill_sound (m := m) (place' := fun i => (fs.map fun f => (f.offset, match E.ty f.type with | some j => j.size | none => 0))[i]?) (by
              intro i p hp
              unfold Env.fieldPlace at hp
              split at hp
              · rename_i f hf
                split at hp
                · rename_i j hj; cases hp; simp [hf, hj]
                · cases hp
              · cases hp) (fun p : Nat × Operand => p.1) (fun p => r p.2) (fun p => r' p.2) ps.toList (vcells z) z.cells cs hps hcs hzv
            refine .here hr (v' := .agg out') ?_ (by have := VR.agg' h2; simpa using this)
            simp only [Instr.build, Sem.run_bind, hzr, Result.andThen_ok, run_und_ty hE hty, hu]
            erw [hplaces]
            simp only [Result.andThen_ok, Array.toList_map, h1, Sem.run_pure]
          · cases e
      · rename_i n el hu
        split at e
        · rename_i j hj
          simp only [someAgg] at e
          split at e
          · rename_i cs hcs
            cases e
            obtain ⟨out', h1, h2⟩ := fill_sound (m := m) (place' := fun i => some (i * j.size, j.size)) (fun i p hp => hp) (fun p : Nat × Operand => p.1) (fun p => r p.2) (fun p => r' p.2) ps.toList (vcells z) z.cells cs hps hcs hzv
            refine .here hr (v' := .agg out') ?_ (by have := VR.agg' h2; simpa using this)
            simp only [Instr.build, Sem.run_bind, hzr, Result.andThen_ok, run_und_ty hE hty, hu, run_size hE hj, Array.toList_map, h1, Sem.run_pure]
          · cases e
        · cases e
      · cases e
    · cases e
  · cases e

theorem rep_get (l : List Value) (_ : 0 < l.length) : ∀ n i, (rep n l)[i]? = if i < n * l.length then l[i % l.length]? else none := by
  intro n
  induction n with
  | zero => intro i; simp [rep]
  | succ n ih =>
    intro i
    simp only [rep]
    by_cases hi : i < l.length
    · rw [List.getElem?_append_left hi, if_pos (by rw [Nat.succ_mul]; omega), Nat.mod_eq_of_lt hi]
    · rw [List.getElem?_append_right (by omega), ih]
      have : (i - l.length) % l.length = i % l.length := by
        conv => rhs; rw [show i = (i - l.length) + l.length from by omega]
        rw [Nat.add_mod_right]
      rw [this]
      by_cases h2 : i < (n + 1) * l.length
      · rw [if_pos h2, if_pos (by rw [Nat.succ_mul] at h2; omega)]
      · rw [if_neg h2, if_neg (by rw [Nat.succ_mul] at h2; omega)]

theorem rep_len (l : List Value) : ∀ n, (rep n l).length = n * l.length := by
  intro n
  induction n with
  | zero => simp [rep]
  | succ n ih => simp [rep, ih, Nat.succ_mul]; omega

theorem zeros_rep (z : Array Value) (n L : Nat) (hL : z.size = L) (hp : 0 < L) : (((Array.range (n * L)).map fun i => z[i % z.size]!) : Array Value).toList = rep n z.toList := by
  apply List.ext_getElem?
  intro i
  rw [rep_get z.toList (by simp; omega) n i]
  simp only [Array.length_toList, hL]
  simp only [Array.toList_map, List.getElem?_map, Array.getElem?_toList]
  by_cases hi : i < n * L
  · rw [if_pos hi]
    have hlt : i % L < z.size := by rw [hL]; exact Nat.mod_lt _ hp
    simp [hi, getElem!_pos z (i % L) hlt]
  · rw [if_neg hi]
    simp; omega

end Go.Ev
