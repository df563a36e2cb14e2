/- A part of a big-step evaluator of the model's language, with the proof that what it comes to, the model comes to for every tape. No conditions. -/
import Derived.Test.YtpncmonojhlheaaGreatEvOps11
namespace Go.Ev

variable {P : Program} {E : Env} {m : Mp} {h : AH} {w : World}

theorem equal_sound (hE : E.Types P) (hr : Rep m h w) {t : Nat} {x y x' y' : Value} {r : Bool} (e : E.eq h 30 t x y = some r) (hx : VR m x x') (hy : VR m y y') : (Op.equal t x' y').run P w = .ok r w :=
  eq_sound hE hr 30 t x y r x' y' e hx hy Op.maxDepth (by unfold Op.maxDepth; omega)

theorem sameNow_equal (_ : E.Types P) {t : Nat} {u : TypeDesc} {x y : Value} {r : Bool} (hu : P.underlying t = some u) (e : Instr.sameNow u x y = some r) : (Op.equal t x y).run P w = .ok r w := by
  unfold Instr.sameNow at e
  have run : (underlying t).run P w = .ok u w := by simp [underlying, hu]
  have hD : Op.maxDepth = 9999 + 1 := rfl
  unfold Op.equal
  rw [hD]
  generalize 9999 = D
  split at e
  · rename_i q k a k' b
    split at e
    · rename_i hk; subst hk; cases e
      simp [Op.equalIn, run]
    · cases e
  · cases e; simp [Op.equalIn, run]
  · cases e; simp [Op.equalIn, run]
  · cases e

theorem eq_und {t : Nat} {x y : Value} {d : Nat} {r : Bool} (e : E.eq h d t x y = some r) : ∃ u, E.und t = some u := by
  cases d with
  | zero => cases e
  | succ d =>
    simp only [Env.eq] at e
    split at e
    · cases e
    · rename_i u hu; exact ⟨u, hu⟩

/-- what is found, said of both -/
def FoundR (m : Mp) (es' : List MapEntry) (i : Nat) (f : Option (Nat × MapEntry)) (f' : Option (Nat × Value)) : Prop :=
  match f with
  | none => f' = none
  | some (j, e) => ∃ e', f' = some (j, e'.val) ∧ i ≤ j ∧ es'[j - i]? = some e' ∧ ER m e e'

theorem FoundR.next {es' : List MapEntry} {x : MapEntry} {i : Nat} {f : Option (Nat × MapEntry)} {f' : Option (Nat × Value)} (hf : FoundR m es' (i + 1) f f') : FoundR m (x :: es') i f f' := by
  unfold FoundR at hf ⊢
  split
  · simpa using hf
  · rename_i j e
    obtain ⟨e', h1, h2, h3, h4⟩ := hf
    refine ⟨e', h1, by omega, ?_, h4⟩
    have : j - i = (j - (i + 1)) + 1 := by omega
    rw [this]; simpa using h3

theorem findAsking_sound (hE : E.Types P) (hr : Rep m h w) {kt : Nat} {k : Value} (_ : ∀ q, VR m k q → q = k) (hk' : VR m k k) : ∀ (es es' : List MapEntry) (i : Nat) (f : Option (Nat × MapEntry)),
    es.length = es'.length → (∀ (j : Nat) (a b : MapEntry), es[j]? = some a → es'[j]? = some b → ER m a b) → E.findK h kt k es i = some f →
    ∃ f', (Instr.findAsking kt k es' i).run P w = .ok f' w ∧ FoundR m es' i f f' := by
  intro es
  induction es with
  | nil =>
    intro es' i f hl hes e
    cases e
    cases es' with
    | nil => exact ⟨none, rfl, rfl⟩
    | cons a as => simp at hl
  | cons a as ih =>
    intro es' i f hl hes e
    cases es' with
    | nil => simp at hl
    | cons b bs =>
      have hab : ER m a b := hes 0 a b rfl rfl
      simp only [Env.findK] at e
      split at e
      · rename_i heq
        cases e
        have := equal_sound hE hr heq hk' hab.1
        refine ⟨some (i, b.val), ?_, b, rfl, Nat.le_refl _, by simp, hab⟩
        simp [Instr.findAsking, this]
      · rename_i heq
        have := equal_sound hE hr heq hk' hab.1
        obtain ⟨f', h1, h2⟩ := ih bs (i + 1) f (by simpa using hl) (fun j x y hx hy => hes (j + 1) x y (by simpa using hx) (by simpa using hy)) e
        refine ⟨f', ?_, h2.next⟩
        simp [Instr.findAsking, this, h1]
      · cases e

theorem findNow_sound (hE : E.Types P) (hr : Rep m h w) {kt : Nat} {k : Value} {u : TypeDesc} (hu : P.underlying kt = some u) (hk' : VR m k k) : ∀ (es es' : List MapEntry) (i : Nat) (f : Option (Nat × MapEntry)) (g : Option (Nat × Value)),
    es.length = es'.length → (∀ (j : Nat) (a b : MapEntry), es[j]? = some a → es'[j]? = some b → ER m a b) → E.findK h kt k es i = some f →
    Instr.findNow u k es' i = some g → FoundR m es' i f g := by
  intro es
  induction es with
  | nil =>
    intro es' i f g hl hes e e'
    cases e
    cases es' with
    | nil => cases e'; rfl
    | cons a as => simp at hl
  | cons a as ih =>
    intro es' i f g hl hes e e'
    cases es' with
    | nil => simp at hl
    | cons b bs =>
      have hab : ER m a b := hes 0 a b rfl rfl
      simp only [Env.findK] at e
      simp only [Instr.findNow] at e'
      have hh : ∀ r r', E.eq h 30 kt k a.key = some r → Instr.sameNow u k b.key = some r' → r = r' := by
        intro r r' h1 h2
        have h1 := equal_sound hE hr h1 hk' hab.1
        have h2 := sameNow_equal (w := w) hE hu h2
        rw [h1] at h2; cases h2; rfl
      split at e'
      · rename_i hs
        split at e
        · rename_i heq
          cases e; cases e'
          exact ⟨b, rfl, Nat.le_refl _, by simp, hab⟩
        · rename_i heq
          have := hh _ _ heq hs; cases this
        · cases e
      · rename_i hs
        split at e
        · rename_i heq
          have := hh _ _ heq hs; cases this
        · rename_i heq
          exact (ih bs (i + 1) f g (by simpa using hl) (fun j x y hx hy => hes (j + 1) x y (by simpa using hx) (by simpa using hy)) e e').next
        · cases e
      · cases e'

theorem findKey_sound (hE : E.Types P) (hr : Rep m h w) {kt : Nat} {k : Value} {u : TypeDesc} (hu : P.underlying kt = some u) (hk : ∀ q, VR m k q → q = k) (hk' : VR m k k) {es es' : List MapEntry} {f : Option (Nat × MapEntry)}
    (hl : es.length = es'.length) (hes : ∀ (j : Nat) (a b : MapEntry), es[j]? = some a → es'[j]? = some b → ER m a b) (e : E.findK h kt k es 0 = some f) :
    ∃ f', (Instr.findKey kt k es').run P w = .ok f' w ∧ FoundR m es' 0 f f' := by
  have run : (underlying kt).run P w = .ok u w := by simp [underlying, hu]
  cases hn : Instr.findNow u k es' 0 with
  | some g =>
    refine ⟨g, ?_, findNow_sound hE hr hu hk' es es' 0 f g hl hes e hn⟩
    simp [Instr.findKey, run, hn]
  | none =>
    obtain ⟨f', h1, h2⟩ := findAsking_sound hE hr hk hk' es es' 0 f hl hes e
    exact ⟨f', by simp [Instr.findKey, run, hn, h1], h2⟩

theorem flatKey_self : ∀ (n : Nat) (v : Value), flatKey n v = true → VR m v v := by
  intro n
  induction n with
  | zero =>
    intro v h
    cases v with
    | int k n => exact .int k n
    | string s => exact .string s
    | bool b => exact .bool b
    | _ => simp [flatKey] at h
  | succ n ih =>
    intro v h
    cases v with
    | int k n => exact .int k n
    | string s => exact .string s
    | bool b => exact .bool b
    | agg cs =>
      have h : cs.toList.all (flatKey n) = true := h
      rw [List.all_eq_true] at h
      exact .agg rfl fun i a b ha hb => by rw [ha] at hb; cases hb; exact ih a (h a (List.mem_of_getElem? ha))
    | _ => simp [flatKey] at h

/-- a key, asked of a map's entries -/
theorem atKey_some {α : Type} {kt : Nat} {k : Value} {es : List MapEntry} {there : Nat → MapEntry → Option α} {not : Option α} {r : α} (e : E.atKey kt k es h there not = some r) :
    flatKey 5 k = true ∧ E.keyOk 10 kt k = true ∧ ((∃ i en, E.findK h kt k es 0 = some (some (i, en)) ∧ there i en = some r) ∨ (E.findK h kt k es 0 = some none ∧ not = some r)) := by
  unfold Env.atKey at e
  cases hf : flatKey 5 k with
  | false => rw [hf] at e; cases e
  | true =>
    cases hk : E.keyOk 10 kt k with
    | false => rw [hf, hk] at e; cases e
    | true =>
      rw [hf, hk] at e
      simp only [Bool.and_self, cond_true] at e
      refine ⟨rfl, rfl, ?_⟩
      split at e
      · rename_i i en hh
        exact .inl ⟨i, en, hh, e⟩
      · rename_i hh
        exact .inr ⟨hh, e⟩
      · cases e

theorem keyOk_und {n t : Nat} {v : Value} (e : E.keyOk n t v = true) : ∃ u, E.und t = some u := by
  cases n with
  | zero => cases e
  | succ n =>
    simp only [Env.keyOk] at e
    split at e
    · rename_i h; exact ⟨_, h⟩
    · rename_i h; exact ⟨_, h⟩
    · rename_i h; exact ⟨_, h⟩
    · rename_i h; exact ⟨_, h⟩
    · cases e

/-- the key walks both -/
theorem key_sound (hE : E.Types P) (hr : Rep m h w) {kt : Nat} {k k' : Value} {es es' : List MapEntry} {f : Option (Nat × MapEntry)} (hf : flatKey 5 k = true) (hok : E.keyOk 10 kt k = true) (hk : VR m k k')
    (hl : es.length = es'.length) (hes : ∀ (j : Nat) (a b : MapEntry), es[j]? = some a → es'[j]? = some b → ER m a b) (e : E.findK h kt k es 0 = some f) :
    k' = k ∧ (∀ b, (Instr.checkKey b 10000 kt k).run P w = .ok () w) ∧ ∃ f', (Instr.findKey kt k es').run P w = .ok f' w ∧ FoundR m es' 0 f f' := by
  obtain ⟨u, hu⟩ := keyOk_und hok
  refine ⟨flatKey_VR 5 k k' hf hk, fun b => keyOk_sound hE 10 kt k hok 10000 b (by omega), ?_⟩
  exact findKey_sound hE hr (und_eq hE hu) (fun q => flatKey_VR 5 k q hf) (flatKey_self 5 k hf) hl hes e

def noCells : Obj → Bool
  | .cells .. => false
  | _ => true
theorem run_getObj {b : Nat} {x : Obj} (e : w.heap[b]? = some x) (hx : noCells x = true := by rfl) : (getObj b).run P w = .ok x w := by
  cases x <;> first | (simp [getObj, Sem.run, e]; done) | cases hx
theorem run_setObj {b : Nat} {x0 x : Obj} (e : w.heap[b]? = some x0) (hx : noCells x0 = true := by rfl) : (setObj b x).run P w = .ok () { w with heap := w.heap.setIfInBounds b x } := by
  cases x0 <;> first | (simp [setObj, Sem.run, e]; done) | cases hx

def lookTail (kt et : Nat) (k : Value) (ok : Bool) (es : Array MapEntry) : Sem Value := do
  Instr.checkKey es.isEmpty 10000 kt k
  let (v, ok0) ← match ← Instr.findKey kt k es.toList with
    | some (_, v) => pure (v, true)
    | none => pure (← zeroValue et, false)
  pure (if ok then .tuple #[v, .bool ok0] else v)

theorem lookup_sound (hE : E.Types P) (hr : Rep m h w) {t : Nat} {x k x' k' v : Value} {ok : Bool} (e : E.lookup t x k ok h = some v) (hx : VR m x x') (hk : VR m k k') :
    Does P m h w (Instr.lookup t x' k' ok) v h := by
  unfold Env.lookup at e
  split at e
  · rename_i kt et hu
    split at e
    · rename_i es hes
      obtain ⟨hf, hok, hh⟩ := atKey_some e
      have main : ∃ es' : Array MapEntry, es.length = es'.toList.length ∧ (∀ (j : Nat) (a b : MapEntry), es[j]? = some a → es'.toList[j]? = some b → ER m a b) ∧
          (Instr.lookup t x' k' ok).run P w = (lookTail kt et k' ok es').run P w := by
        split at hes
        · cases hes; cases hx
          refine ⟨#[], rfl, fun j a b ha => by simp at ha, ?_⟩
          simp only [Instr.lookup, lookTail, Sem.run_bind, run_und hE hu, Result.andThen_ok, Sem.run_pure]
          rfl
        · cases hx with
          | map hm =>
            split at hes
            · rename_i es0 cl hmap
              cases hes
              obtain ⟨es', h1, h2, _, h4, h5⟩ := rep_mapobj hr hmap hm
              refine ⟨es', h4, h5, ?_⟩
              simp only [Instr.lookup, lookTail, Sem.run_bind, run_und hE hu, Result.andThen_ok, Sem.run_pure, run_getObj h2]
              rfl
            · cases hes
        · cases hes
      obtain ⟨es', hl, hes', hg⟩ := main
      rcases hh with ⟨i, en, hfk, hv⟩ | ⟨hfk, hv⟩
      · obtain ⟨rfl, hck, f', h1, e', h2, h3, h4, h5⟩ := key_sound hE hr hf hok hk hl hes' hfk
        subst h2
        refine .here hr (v' := if ok then .tuple #[e'.val, .bool true] else e'.val) ?_ ?_
        · rw [hg]
          simp [lookTail, hck, h1]
        · cases hv
          cases ok with
          | false => exact h5.2.1
          | true => exact .tuple' (.cons h5.2.1 (.cons (.bool true) .nil))
      · obtain ⟨rfl, hck, f', h1, h2⟩ := key_sound hE hr hf hok hk hl hes' hfk
        have h2 : f' = none := h2
        subst h2
        split at hv
        · rename_i z hz
          obtain ⟨hzr, hzf⟩ := zeroOf_run hE hz w
          refine .here hr (v' := if ok then .tuple #[z, .bool false] else z) ?_ ?_
          · rw [hg]
            simp [lookTail, hck, h1, hzr]
          · cases hv
            have hzz := flatV_VR (m := m) 10 z hzf
            cases ok with
            | false => exact hzz
            | true => exact .tuple' (.cons hzz (.cons (.bool false) .nil))
        · cases hv
    · cases e
  · cases e


theorem bits_VR {n : Nat} : ∀ {a b a' b' : Value}, flatKey n b = true → VR m a a' → VR m b b' → Instr.sameBits 10000 a b = true → Instr.sameBits 10000 a' b' = true := by
  intro a b a' b' hf ha hb hs
  have := flatKey_VR n b b' hf hb; subst this
  have key : ∀ (D n : Nat) (b a a' : Value), flatKey n b = true → VR m a a' → Instr.sameBits D a b = true → Instr.sameBits D a' b = true := by
    intro D
    induction D with
    | zero =>
      intro n b a a' hf ha hs
      cases a <;> cases b <;> first | (cases hs; done) | (cases n <;> (cases hf; done)) | (cases ha; exact hs)
    | succ D ih =>
      intro n b a a' hf ha hs
      cases b with
      | agg ds =>
        cases n with
        | zero => cases hf
        | succ n =>
          cases a with
          | agg cs =>
            obtain ⟨cs', rfl, hcs⟩ := ha.agg_inv
            simp only [Instr.sameBits, Bool.and_eq_true, beq_iff_eq, List.all_eq_true] at hs ⊢
            have hsz : cs'.size = cs.size := by have := hcs.1; simpa using this.symm
            refine ⟨by rw [hsz]; exact hs.1, ?_⟩
            have hf : ds.toList.all (flatKey n) = true := hf
            rw [List.all_eq_true] at hf
            rintro ⟨x', y⟩ hxy
            obtain ⟨i, hi⟩ := List.mem_iff_getElem?.1 hxy
            rw [List.getElem?_zip_eq_some] at hi
            obtain ⟨hi1, hi2⟩ := hi
            have hlt : i < cs.toList.length := by
              have := hcs.1
              rcases Nat.lt_or_ge i cs'.toList.length with hh | hh
              · omega
              · rw [List.getElem?_eq_none hh] at hi1; cases hi1
            have hv := hcs.2 i _ x' (List.getElem?_eq_getElem hlt) hi1
            refine ih n y _ x' (hf y (List.mem_of_getElem? hi2)) hv (hs.2 (_, y) ?_)
            exact List.mem_of_getElem? (List.getElem?_zip_eq_some.2 ⟨List.getElem?_eq_getElem hlt, hi2⟩)
          | _ => cases hs
      | _ => cases a <;> first | (cases hs; done) | (cases n <;> (cases hf; done)) | (cases ha; exact hs)
  exact key 10000 n b' a a' hf ha hs


theorem setL_map {es es' : List MapEntry} (hl : es.length = es'.length) (hes : ∀ (j : Nat) (a b : MapEntry), es[j]? = some a → es'[j]? = some b → ER m a b) {i : Nat} {x y : MapEntry} (hxy : ER m x y) :
    (es.set i x).length = (es'.set i y).length ∧ ∀ (j : Nat) (a b : MapEntry), (es.set i x)[j]? = some a → (es'.set i y)[j]? = some b → ER m a b := by
  refine ⟨by simp [hl], fun j a b ha hb => ?_⟩
  rw [List.getElem?_set] at ha hb
  split at ha
  · rename_i hij; subst hij
    rw [if_pos rfl] at hb
    split at ha
    · cases ha
      split at hb
      · cases hb; exact hxy
      · cases hb
    · cases ha
  · rename_i hij
    rw [if_neg hij] at hb
    exact hes j a b ha hb

theorem pushL_map {es es' : List MapEntry} (hl : es.length = es'.length) (hes : ∀ (j : Nat) (a b : MapEntry), es[j]? = some a → es'[j]? = some b → ER m a b) {x y : MapEntry} (hxy : ER m x y) :
    (es ++ [x]).length = (es' ++ [y]).length ∧ ∀ (j : Nat) (a b : MapEntry), (es ++ [x])[j]? = some a → (es' ++ [y])[j]? = some b → ER m a b := by
  refine ⟨by simp [hl], fun j a b ha hb => ?_⟩
  rcases Nat.lt_or_ge j es.length with hj | hj
  · rw [List.getElem?_append_left hj] at ha
    rw [List.getElem?_append_left (hl ▸ hj)] at hb
    exact hes j a b ha hb
  · rw [List.getElem?_append_right hj] at ha
    rw [List.getElem?_append_right (hl ▸ hj)] at hb
    rw [← hl] at hb
    cases hjj : j - es.length with
    | zero => rw [hjj] at ha hb; cases ha; cases hb; exact hxy
    | succ q => rw [hjj] at ha; simp at ha

theorem modify_toList (es : Array MapEntry) (i : Nat) (f : MapEntry → MapEntry) {x : MapEntry} (hx : es.toList[i]? = some x) : (es.modify i f).toList = es.toList.set i (f x) := by
  apply List.ext_getElem?
  intro j
  rw [Array.getElem?_toList, Array.getElem?_modify, List.getElem?_set]
  rw [Array.getElem?_toList] at hx
  by_cases hij : i = j
  · subst hij
    have hlt : i < es.size := by
      rcases Nat.lt_or_ge i es.size with hh | hh
      · exact hh
      · rw [Array.getElem?_eq_none hh] at hx; cases hx
    have hxx : es[i] = x := by rw [Array.getElem?_eq_getElem hlt] at hx; cases hx; rfl
    simp [hlt, hxx]
  · simp [hij]

theorem stays_run {old new : Value} (hs : Instr.sameBits 10000 old new = true) : (Instr.keyThatStays old new).run P w = .ok new w := by
  unfold Instr.keyThatStays
  rw [if_pos hs]
  rfl

theorem goInt_VR (n : Nat) : VR m (.int .i64 n) (goInt (n : Int)) := .int _ _

theorem mapUpdate_sound (hE : E.Types P) (hr : Rep m h w) {t : Nat} {x k v x' k' v' : Value} {h' : AH} (e : E.mapUpdate t x k v h = some h') (hx : VR m x x') (hk : VR m k k') (hv : VR m v v') :
    DoesU P m h w (Instr.mapUpdate t x' k' v') h' := by
  unfold Env.mapUpdate at e
  split at e
  · rename_i kt et r hu
    split at e
    · rename_i es cl hmap
      cases hx with
      | map hm =>
        obtain ⟨es', h1, h2, _, hl, hes⟩ := rep_mapobj hr hmap hm
        obtain ⟨hf, hok, hh⟩ := atKey_some e
        rcases hh with ⟨i, en, hfk, hv1⟩ | ⟨hfk, hv1⟩
        · obtain ⟨rfl, hck, f', hf1, e', hf2, _, hf4, hf5⟩ := key_sound hE hr hf hok hk hl hes hfk
          subst hf2
          cases hsb : Instr.sameBits 10000 en.key k' with
          | false => rw [hsb] at hv1; cases hv1
          | true =>
            rw [hsb] at hv1
            cases hv1
            have hst := bits_VR hf hf5.1 hk hsb
            simp only [Nat.sub_zero] at hf4
            obtain ⟨ha, hb⟩ := setL_map hl hes (i := i) (x := ⟨k', v, en.born⟩) (y := ⟨k', v', e'.born⟩) ⟨hk, hv, hf5.2.2⟩
            refine ⟨_, m, ?_, putObj_goes hr h1 hm (.map (es' := es'.modify i fun e => { e with key := k', val := v' }) rfl ?_ ?_) (fun _ _ _ hh => by cases hh)⟩
            · have hg4 : es'[i]? = some e' := by rw [← Array.getElem?_toList]; exact hf4
              simp only [Instr.mapUpdate, Sem.run_bind, run_und hE hu, Result.andThen_ok, run_getObj h2, hck, hf1, hg4, Option.map_some, Option.getD_some, stays_run hst]
              exact run_setObj h2
            · rw [modify_toList _ _ _ hf4]; exact ha
            · rw [modify_toList _ _ _ hf4]; exact hb
        · obtain ⟨rfl, hck, f', hf1, hf2⟩ := key_sound hE hr hf hok hk hl hes hfk
          have hf2 : f' = none := hf2
          subst hf2
          cases hv1
          obtain ⟨ha, hb⟩ := pushL_map hl hes (x := ⟨k', v, cl⟩) (y := ⟨k', v', cl⟩) ⟨hk, hv, rfl⟩
          refine ⟨_, m, ?_, putObj_goes hr h1 hm (.map (es' := es'.push ⟨k', v', cl⟩) rfl ?_ ?_) (fun _ _ _ hh => by cases hh)⟩
          · simp only [Instr.mapUpdate, Sem.run_bind, run_und hE hu, Result.andThen_ok, run_getObj h2, hck, hf1]
            exact run_setObj h2
          · simpa using ha
          · simpa using hb
    · cases e
  · cases e

theorem mapEntry_sound (hE : E.Types P) (hr : Rep m h w) {t : Nat} {x k v x' k' : Value} {h' : AH} (e : E.mapEntry t x k h = some (v, h')) (hx : VR m x x') (hk : VR m k k') :
    Does P m h w (Instr.mapEntry t x' k') v h' := by
  unfold Env.mapEntry at e
  split at e
  · rename_i kt et r hu
    split at e
    · rename_i es cl hmap
      cases hx with
      | map hm =>
        obtain ⟨es', h1, h2, _, hl, hes⟩ := rep_mapobj hr hmap hm
        obtain ⟨hf, hok, hh⟩ := atKey_some e
        rcases hh with ⟨i, en, hfk, hv1⟩ | ⟨hfk, hv1⟩
        · obtain ⟨rfl, hck, f', hf1, e', hf2, _, hf4, hf5⟩ := key_sound hE hr hf hok hk hl hes hfk
          subst hf2
          cases hsb : Instr.sameBits 10000 en.key k' with
          | false => rw [hsb] at hv1; cases hv1
          | true =>
            rw [hsb] at hv1
            cases hv1
            have hst := bits_VR hf hf5.1 hk hsb
            simp only [Nat.sub_zero] at hf4
            obtain ⟨ha, hb⟩ := setL_map hl hes (i := i) (x := ⟨k', en.val, en.born⟩) (y := ⟨k', e'.val, e'.born⟩) ⟨hk, hf5.2.1, hf5.2.2⟩
            refine ⟨.tuple #[e'.val, goInt e'.born], _, m, ?_, putObj_goes hr h1 hm (.map (es' := es'.modify i fun e => { e with key := k' }) rfl ?_ ?_) (fun _ _ _ hh => by cases hh), ?_⟩
            · have hg4 : es'[i]? = some e' := by rw [← Array.getElem?_toList]; exact hf4
              simp only [Instr.mapEntry, Sem.run_bind, run_und hE hu, Result.andThen_ok, run_getObj h2, hck, hf1, hg4, Option.map_some, Option.getD_some, stays_run hst, run_setObj h2, Sem.run_pure]
            · rw [modify_toList _ _ _ hf4]; exact ha
            · rw [modify_toList _ _ _ hf4]; exact hb
            · rw [hf5.2.2]; exact .tuple' (.cons hf5.2.1 (.cons (goInt_VR _) .nil))
        · obtain ⟨rfl, hck, f', hf1, hf2⟩ := key_sound hE hr hf hok hk hl hes hfk
          have hf2 : f' = none := hf2
          subst hf2
          split at hv1
          · rename_i z hz
            obtain ⟨hzr, hzf⟩ := zeroOf_run hE hz w
            have hzz := flatV_VR (m := m) 10 z hzf
            cases hv1
            obtain ⟨ha, hb⟩ := pushL_map hl hes (x := ⟨k', z, cl⟩) (y := ⟨k', z, cl⟩) ⟨hk, hzz, rfl⟩
            refine ⟨.tuple #[z, goInt cl], _, m, ?_, putObj_goes hr h1 hm (.map (es' := es'.push ⟨k', z, cl⟩) rfl ?_ ?_) (fun _ _ _ hh => by cases hh), ?_⟩
            · simp only [Instr.mapEntry, Sem.run_bind, run_und hE hu, Result.andThen_ok, run_getObj h2, hck, hf1, hzr, run_setObj h2, Sem.run_pure]
            · simpa using ha
            · simpa using hb
            · exact .tuple' (.cons hzz (.cons (goInt_VR _) .nil))
          · cases hv1
    · cases e
  · cases e

theorem delete_sound (hE : E.Types P) (hr : Rep m h w) {ts : Array Nat} {t t0 : Nat} {rest : List Nat} {x k x' k' : Value} {h' : AH} (hts : ts.toList = t :: rest) (e : E.delete t x k h = some h') (hx : VR m x x') (hk : VR m k k') :
    Does P m h w (Builtin.delete_ ts t0 #[x', k']) (.tuple #[]) h' := by
  have h0 : ts[0]? = some t := by rw [← Array.getElem?_toList, hts]; rfl
  have hx0 : (#[x', k'] : Array Value)[0]? = some x' := rfl
  have hx1 : (#[x', k'] : Array Value)[1]? = some k' := rfl
  unfold Env.delete at e
  split at e
  · rename_i kt et hu
    split at e
    · cases hf : flatKey 5 k with
      | false => rw [hf] at e; cases e
      | true =>
        cases hok : E.keyOk 10 kt k with
        | false => rw [hf, hok] at e; cases e
        | true =>
          rw [hf, hok] at e; cases e; cases hx
          have := flatKey_VR 5 k k' hf hk; subst this
          have hck := keyOk_sound (w := w) hE 10 kt k' hok 10000 true (by omega)
          refine .here hr (v' := .tuple #[]) ?_ (VR.undef m)
          simp only [Builtin.delete_, h0, hx0, hx1, Sem.run_bind, run_und hE hu, Result.andThen_ok, hck, Sem.run_pure]
    · rename_i r
      split at e
      · rename_i es cl hmap
        cases hx with
        | map hm =>
          obtain ⟨es', h1, h2, _, hl, hes⟩ := rep_mapobj hr hmap hm
          obtain ⟨hf, hok, hh⟩ := atKey_some e
          rcases hh with ⟨i, en, hfk, hv1⟩ | ⟨hfk, hv1⟩
          · obtain ⟨rfl, hck, f', hf1, e', hf2, _, hf4, hf5⟩ := key_sound hE hr hf hok hk hl hes hfk
            subst hf2
            cases hv1
            simp only [Nat.sub_zero] at hf4
            have hel : (es'.eraseIdxIfInBounds i).toList = es'.toList.eraseIdx i := by
              unfold Array.eraseIdxIfInBounds
              split
              · simp
              · rename_i hh
                rw [List.eraseIdx_of_length_le]; simpa using hh
            refine ⟨.tuple #[], _, m, ?_, putObj_goes hr h1 hm (.map (es' := es'.eraseIdxIfInBounds i) rfl ?_ ?_) (fun _ _ _ hh => by cases hh), VR.undef m⟩
            · simp only [Builtin.delete_, h0, hx0, hx1, Sem.run_bind, run_und hE hu, Result.andThen_ok, run_getObj h2, hck, hf1, run_setObj h2, Sem.run_pure]
            · rw [hel]; simp [List.length_eraseIdx, hl]
            · rw [hel]
              intro j a b ha hb
              rw [List.getElem?_eraseIdx] at ha hb
              split at ha
              · rename_i hj; rw [if_pos hj] at hb; exact hes j a b ha hb
              · rename_i hj; rw [if_neg hj] at hb; exact hes (j + 1) a b ha hb
          · obtain ⟨rfl, hck, f', hf1, hf2⟩ := key_sound hE hr hf hok hk hl hes hfk
            have hf2 : f' = none := hf2
            subst hf2
            cases hv1
            refine ⟨.tuple #[], _, m, ?_, putObj_goes hr h1 hm (.map (es' := es') rfl hl hes) (fun _ _ _ hh => by cases hh), VR.undef m⟩
            simp only [Builtin.delete_, h0, hx0, hx1, Sem.run_bind, run_und hE hu, Result.andThen_ok, run_getObj h2, hck, hf1, run_setObj h2, Sem.run_pure]
      · cases e
    · cases e
  · cases e

theorem bornAt_some (b : Int) : ∀ (es : List MapEntry) (es' : List MapEntry) (i j : Nat) (e : MapEntry), es.length = es'.length → (∀ (j : Nat) (x y : MapEntry), es[j]? = some x → es'[j]? = some y → ER m x y) → bornAt b es i = some (j, e) →
    ∃ e', i ≤ j ∧ es'.findIdx? (fun e => (e.born : Int) == b) = some (j - i) ∧ es'.find? (fun e => (e.born : Int) == b) = some e' ∧ es'[j - i]? = some e' ∧ ER m e e' := by
  intro es
  induction es with
  | nil => intro es' i j e hl hes hh; cases hh
  | cons x xs ih =>
    intro es' i j e hl hes hh
    cases es' with
    | nil => simp at hl
    | cons y ys =>
      have hxy := hes 0 x y rfl rfl
      simp only [bornAt] at hh
      have hieq : ieq (.ofNat x.born) b = ((y.born : Int) == b) := by
        have := ieq_eq (.ofNat x.born) b
        rw [this, hxy.2.2]; rfl
      cases hb : ieq (.ofNat x.born) b with
      | true =>
        rw [hb] at hh hieq
        simp only [cond_true, Option.some.injEq, Prod.mk.injEq] at hh
        obtain ⟨rfl, rfl⟩ := hh
        refine ⟨y, Nat.le_refl _, ?_, ?_, ?_, hxy⟩
        · rw [List.findIdx?_cons, ← hieq]; simp
        · rw [List.find?_cons, ← hieq]
        · simp
      | false =>
        rw [hb] at hh hieq
        simp only [cond_false] at hh
        obtain ⟨e', h1, h2, h3, h4, h5⟩ := ih ys (i + 1) j e (by simpa using hl) (fun q a b ha hb => hes (q + 1) a b (by simpa using ha) (by simpa using hb)) hh
        have hji : j - i = (j - (i + 1)) + 1 := by omega
        refine ⟨e', by omega, ?_, ?_, ?_, h5⟩
        · rw [List.findIdx?_cons, ← hieq, h2, hji]; simp
        · rw [List.find?_cons, ← hieq]; exact h3
        · rw [hji]; simpa using h4

theorem entryStore_sound (hr : Rep m h w) {t : Nat} {x st v x' st' v' : Value} {h' : AH} (e : entryStore x st v h = some h') (hx : VR m x x') (hst : VR m st st') (hv : VR m v v') :
    DoesU P m h w (Instr.entryStore t x' st' v') h' := by
  unfold entryStore at e
  split at e
  · rename_i r q b
    split at e
    · rename_i es cl hmap
      split at e
      · rename_i i en hb
        cases e
        cases hx with
        | map hm =>
          rw [hst.int_inv]
          obtain ⟨es', h1, h2, _, hl, hes⟩ := rep_mapobj hr hmap hm
          obtain ⟨e', _, g2, g3, g4, g5⟩ := bornAt_some b es es'.toList 0 i en hl hes hb
          simp only [Nat.sub_zero] at g2 g4
          obtain ⟨ha, hb'⟩ := setL_map hl hes (i := i) (x := ⟨en.key, v, en.born⟩) (y := ⟨e'.key, v', e'.born⟩) ⟨g5.1, hv, g5.2.2⟩
          have hfi : es'.findIdx? (fun e => (e.born : Int) == b) = some i := by
            rw [← List.findIdx?_toArray] at g2; simpa using g2
          refine ⟨_, m, ?_, putObj_goes hr h1 hm (.map (es' := es'.modify i fun e => { e with val := v' }) rfl ?_ ?_) (fun _ _ _ hh => by cases hh)⟩
          · have ha : (asInt (.int q b)).run P w = .ok b w := by simp [asInt, asIntOf]
            simp only [Instr.entryStore, Sem.run_bind, Result.andThen_ok, run_getObj h2, ha, hfi]
            exact run_setObj h2
          · rw [modify_toList _ _ _ g4]; exact ha
          · rw [modify_toList _ _ _ g4]; exact hb'
      · cases e
    · cases e
  · cases e

end Go.Ev
