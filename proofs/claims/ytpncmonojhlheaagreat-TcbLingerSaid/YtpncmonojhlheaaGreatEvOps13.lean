/- A part of a big-step evaluator of the model's language, with the proof that what it comes to, the model comes to for every tape. No conditions. -/
import Derived.Test.YtpncmonojhlheaaGreatEvOps12
namespace Go.Ev

variable {P : Program} {E : Env} {m : Mp} {h : AH} {w : World}

theorem new_obj (hr : Rep m h w) {o : AObj} {x : Obj} (ho : OR m 0 o x) (hro : o.ro = false := by rfl) : Goes m h w (more1 m h w x) (h.new o) { w with heap := w.heap.push x } :=
  Goes.new hr (ho.mono (ext_more hr x)) hro

theorem ptr_new (m : Mp) (h : AH) (w : World) (x : Obj) : VR (more1 m h w x) (ptr h.next 0) (.pointer (some ⟨w.heap.size, 0, none⟩)) := by
  have := VR.ptr (i := 0) (more1_self m h w x)
  simpa [ptr] using this

theorem range_sound (hE : E.Types P) (hr : Rep m h w) {t : Nat} {x x' v : Value} {h' : AH} (e : E.range t x h = some (v, h')) (hx : VR m x x') : Does P m h w (Instr.range t x') v h' := by
  unfold Env.range at e
  split at e
  · rename_i hu
    cases e; cases hx
    refine ⟨_, _, _, ?_, new_obj hr (x := .mapIter none 0 #[] 0) (.iterNil (seen := []) rfl), ptr_new ..⟩
    simp [Instr.range, run_und hE hu]
  · rename_i r hu
    split at e
    · rename_i es cl hmap
      cases e
      cases hx with
      | map hm =>
        obtain ⟨es', h1, h2, _, _, _⟩ := rep_mapobj hr hmap hm
        refine ⟨_, _, _, ?_, new_obj hr (x := .mapIter (some _) cl #[] cl) (.iter (seen := []) rfl hm), ptr_new ..⟩
        simp only [Instr.range, Sem.run_bind, run_und hE hu, Result.andThen_ok, run_getObj h2, Sem.run_pure, run_newObj]
    · cases e
  · cases e

theorem filter_rel (p : Nat → Bool) : ∀ (es es' : List MapEntry), es.length = es'.length → (∀ (j : Nat) (a b : MapEntry), es[j]? = some a → es'[j]? = some b → ER m a b) →
    (es.filter fun e => p e.born).length = (es'.filter fun e => p e.born).length ∧ (∀ (j : Nat) (a b : MapEntry), (es.filter fun e => p e.born)[j]? = some a → (es'.filter fun e => p e.born)[j]? = some b → ER m a b) ∧
    (es.all fun e => p e.born) = (es'.all fun e => p e.born) ∧ es.isEmpty = es'.isEmpty := by
  intro es
  induction es with
  | nil =>
    intro es' hl hes
    cases es' with
    | nil => exact ⟨rfl, fun j a b ha => by simp at ha, rfl, rfl⟩
    | cons b bs => simp at hl
  | cons x xs ih =>
    intro es' hl hes
    cases es' with
    | nil => simp at hl
    | cons y ys =>
      have hxy := hes 0 x y rfl rfl
      obtain ⟨h1, h2, h3, _⟩ := ih ys (by simpa using hl) (fun j a b ha hb => hes (j + 1) a b (by simpa using ha) (by simpa using hb))
      have hb := hxy.2.2
      refine ⟨?_, ?_, by simp [hb, h3], rfl⟩
      · simp only [List.filter_cons, hb]
        split
        · simp [h1]
        · exact h1
      · intro j a b ha hb'
        simp only [List.filter_cons, hb] at ha hb'
        split at ha
        · rename_i hp
          rw [if_pos hp] at hb'
          cases j with
          | zero => cases ha; cases hb'; exact hxy
          | succ j => exact h2 j a b (by simpa using ha) (by simpa using hb')
        · rename_i hp
          rw [if_neg hp] at hb'
          exact h2 j a b ha hb'

theorem choose_one (w : World) : ∃ w', (choose (.mapNext 1)).run P w = .ok 0 w' ∧ w' = w := by
  refine ⟨w, ?_, rfl⟩
  rw [run_choose]; rfl

theorem next_sound (hr : Rep m h w) {t : Nat} {x x' v : Value} {b : Bool} {h' : AH} (e : next x b h = some (v, h')) (hx : VR m x x') : Does P m h w (Instr.next x' b t) v h' := by
  unfold next at e
  cases b with
  | true => cases e
  | false =>
    simp only [cond_false] at e
    obtain ⟨r, o, hxo, he⟩ := atAddr_some e; clear e; subst hxo; have e := he; clear he
    obtain ⟨b, d, hm, rfl⟩ := vr_ptr hx
    cases ho : Nat.beq o 0 with
    | false => rw [ho] at e; cases e
    | true =>
      rw [ho] at e
      have := Nat.eq_of_beq_eq_true ho; subst this
      simp only [cond_true] at e
      split at e
      · rename_i since seen stepped hg
        cases e
        obtain ⟨b', d', y, k1, k2, k3⟩ := hr.obj _ _ hg
        rw [hm] at k1; cases k1
        cases k3 with
        | iterNil hd =>
          subst hd
          refine .here hr (v' := .tuple #[.bool false]) ?_ (.tuple' (.cons (.bool false) .nil))
          simp only [Instr.next, Sem.run_bind, run_getObj k2, Result.andThen_ok, Sem.run_pure]
      · rename_i mm since seen last hg
        obtain ⟨b', d', y, k1, k2, k3⟩ := hr.obj _ _ hg
        rw [hm] at k1; cases k1
        cases k3 with
        | iter hd hmm =>
          subst hd
          split at e
          · rename_i es cl hmap
            obtain ⟨es', h1, h2, _, hl, hes⟩ := rep_mapobj hr hmap hmm
            unfold nextIn at e
            obtain ⟨_, _, f3, f4⟩ := filter_rel (fun b => Nat.ble last b) es es'.toList hl hes
            obtain ⟨f1, f2, _, _⟩ := filter_rel (fun b => !seen.contains b) es es'.toList hl hes
            cases hc : (!seen.isEmpty && !es.isEmpty && es.all (fun e => Nat.ble last e.born)) with
            | true => rw [hc] at e; cases e
            | false =>
              rw [hc] at e
              simp only [cond_false] at e
              have hc' : (!seen.toArray.isEmpty && !es'.isEmpty && es'.all fun e => decide (e.born ≥ last)) = false := by
                rw [f3, f4] at hc
                rw [← hc]
                have hall : (es'.all fun e => decide (e.born ≥ last)) = (es'.toList.all fun e => Nat.ble last e.born) := by
                  rw [← Array.all_toList]
                  congr 1
                  funext e
                  rw [Bool.eq_iff_iff]; simp
                have hemp : es'.isEmpty = es'.toList.isEmpty := by simp
                rw [hall, hemp]; simp
              have hleft : (es'.filter fun e => !seen.toArray.contains e.born).toList = es'.toList.filter fun e => !seen.contains e.born := by
                rw [Array.toList_filter]; simp
              generalize hL : (es'.filter fun e => !seen.toArray.contains e.born) = left at hleft
              split at e
              · rename_i hfil
                cases e
                rw [hfil] at f1
                have hle : left = #[] := by
                  rw [← hleft] at f1
                  have : left.toList = [] := List.eq_nil_of_length_eq_zero f1.symm
                  simpa using this
                subst hle
                refine .here hr (v' := .tuple #[.bool false]) ?_ (.tuple' (.cons (.bool false) .nil))
                simp only [Instr.next, Sem.run_bind, run_getObj k2, Result.andThen_ok, run_getObj h2]
                rw [hc']
                simp only [Bool.false_eq_true, if_false]
                rw [hL]
                simp [Question.forced, run_choose]
              · rename_i en hfil
                rw [hfil] at f1 f2
                have : ∃ en', left = #[en'] ∧ ER m en en' := by
                  rw [← hleft] at f1 f2
                  match hlt : left.toList, f1 with
                  | [a], _ => exact ⟨a, by apply Array.ext'; simpa using hlt, f2 0 en a rfl (by rw [hlt]; rfl)⟩
                obtain ⟨en', rfl, hen⟩ := this
                cases hlt : Nat.blt en.born since with
                | false => rw [hlt] at e; cases e
                | true =>
                  rw [hlt] at e
                  cases e
                  have hlt' : en'.born < since := by rw [← hen.2.2]; exact Nat.le_of_ble_eq_true hlt
                  refine ⟨.tuple #[.bool true, en'.key, en'.val], _, m, ?_, putObj_goes hr hg hm (x := .mapIter (some _) since (seen ++ [en.born]).toArray cl) (.iter rfl hmm) (fun _ _ _ hh => by cases hh), .tuple' (.cons (.bool true) (.cons hen.1 (.cons hen.2.1 .nil)))⟩
                  simp only [Instr.next, Sem.run_bind, run_getObj k2, Result.andThen_ok, run_getObj h2]
                  rw [hc']
                  simp only [Bool.false_eq_true, if_false]
                  rw [hL]
                  have e1 : (#[en'].filter fun e => decide (e.born < since)) = #[en'] := by simp [hlt']
                  have e2 : (#[en'].filter fun e => decide (e.born ≥ since)) = #[] := by simp [hlt']
                  rw [e1, e2]
                  simp [Question.forced, run_choose, run_setObj k2, hen.2.2]
              · cases e
          · cases e
      · cases e

theorem entry_sound (hr : Rep m h w) {x x' v : Value} (e : entry x h = some v) (hx : VR m x x') : Does P m h w (Instr.entry x') v h := by
  unfold entry at e
  obtain ⟨r, o, hxo, he⟩ := atAddr_some e; clear e; subst hxo; have e := he; clear he
  obtain ⟨b, d, hm, rfl⟩ := vr_ptr hx
  cases ho : Nat.beq o 0 with
  | false => rw [ho] at e; cases e
  | true =>
    rw [ho] at e
    have := Nat.eq_of_beq_eq_true ho; subst this
    simp only [cond_true] at e
    split at e
    · rename_i mm since seen stepped hg
      obtain ⟨b', d', y, k1, k2, k3⟩ := hr.obj _ _ hg
      rw [hm] at k1; cases k1
      cases k3 with
      | iter hd hmm =>
        subst hd
        split at e
        · rename_i es cl st hmap hlast
          obtain ⟨es', h1, h2, _, hl, hes⟩ := rep_mapobj hr hmap hmm
          cases hc : Nat.beq cl stepped with
          | false => rw [hc] at e; cases e
          | true =>
            rw [hc] at e
            have := Nat.eq_of_beq_eq_true hc; subst this
            simp only [cond_true] at e
            split at e
            · rename_i j en hb
              cases e
              obtain ⟨e', _, g2, g3, g4, g5⟩ := bornAt_some _ es es'.toList 0 j en hl hes hb
              have hfi : es'.find? (fun e => e.born == st) = some e' := by
                have : (fun e : MapEntry => ((e.born : Int) == .ofNat st)) = fun e => e.born == st := by
                  funext e; rw [Bool.eq_iff_iff]; simp; omega
                rw [this] at g3
                rw [← Array.find?_toList]; exact g3
              have hback : seen.toArray.back? = some st := by simpa using hlast
              refine .here hr (v' := .tuple #[e'.key, e'.val]) ?_ (.tuple' (.cons g5.1 (.cons g5.2.1 .nil)))
              simp only [Instr.entry, Sem.run_bind, run_getObj k2, Result.andThen_ok, hback, run_getObj h2, Sem.run_pure, hfi, Sem.run_ite]
              simp
            · cases e
        · cases e
    · cases e

theorem typeAssert_sound (hE : E.Types P) (hr : Rep m h w) {x x' v : Value} {xt ta : Nat} {ok : Bool} (e : E.typeAssert x ta ok = some v) (hx : VR m x x') : Does P m h w (Instr.typeAssert x' xt ta ok) v h := by
  unfold Env.typeAssert at e
  split at e
  · rename_i i hi
    have hu := run_und_ty hE hi w
    have hzero : ∀ z, i.zero = some z → (zeroValue ta).run P w = .ok z w ∧ VR m z z := fun z hz => ⟨run_zero hE hi hz w, flatV_VR 10 z (hE.zero _ _ _ hi hz).1⟩
    split at e
    · cases e
    · rename_i u hne
      cases ok with
      | false => cases e
      | true =>
        simp only [cond_true] at e
        split at e
        · rename_i z hz
          cases e; cases hx
          obtain ⟨z1, z2⟩ := hzero z hz
          refine .here hr (v' := .tuple #[z, .bool false]) ?_ (.tuple' (.cons z2 (.cons (.bool false) .nil)))
          simp only [Instr.typeAssert, Sem.run_bind, hu, Result.andThen_ok]
          generalize i.und = u at hne
          cases u <;> first | exact absurd rfl (hne _) | simp [z1]
        · cases e
    · rename_i u t v0 hne
      cases hx with
      | iface hv =>
        cases ht : Nat.beq t ta with
        | true =>
          rw [ht] at e
          have := Nat.eq_of_beq_eq_true ht; subst this
          rename_i v1
          refine .here hr (v' := cond ok (.tuple #[v1, .bool true]) v1) ?_ ?_
          · simp only [Instr.typeAssert, Sem.run_bind, hu, Result.andThen_ok]
            generalize i.und = u at hne
            cases u <;> first | exact absurd rfl (hne _) | (cases ok <;> simp)
          · cases e
            cases ok with
            | false => exact hv
            | true => exact .tuple' (.cons hv (.cons (.bool true) .nil))
        | false =>
          rw [ht] at e
          have ht := beq_false.1 ht
          cases ok with
          | false => cases e
          | true =>
            simp only [cond_true, cond_false] at e
            split at e
            · rename_i z hz
              cases e
              obtain ⟨z1, z2⟩ := hzero z hz
              refine .here hr (v' := .tuple #[z, .bool false]) ?_ (.tuple' (.cons z2 (.cons (.bool false) .nil)))
              simp only [Instr.typeAssert, Sem.run_bind, hu, Result.andThen_ok]
              generalize i.und = u at hne
              cases u <;> first | exact absurd rfl (hne _) | simp [z1, ht]
            · cases e
    · cases e
  · cases e

theorem map_sound (hE : E.Types P) (hr : Rep m h w) {t : Nat} {x x' : Option Value} {v : Value} {h' : AH} (e : opMap E t x h = .val v h') (hx : VRo m x x') : Does P m h w (Instr.makeMap t x') v h' := by
  have fin : ∀ s : Sem Value, s.run P w = .ok (.map (some w.heap.size)) { w with heap := w.heap.push (.map #[] 0) } → Does P m h w s (.map (some h.next)) (h.new (.map [] 0)) := by
    intro s hs
    exact ⟨_, _, _, hs, new_obj hr (x := .map #[] 0) (.map rfl rfl (fun i a b ha => by simp at ha)), .map (more1_self ..)⟩
  unfold opMap at e
  cases x with
  | none =>
    have : x' = none := by cases x' with
      | none => rfl
      | some y => cases hx
    subst this
    cases e
    exact fin _ (by simp [Instr.makeMap])
  | some y =>
    cases x' with
    | none => cases hx
    | some y' =>
      have hy : VR m y y' := hx
      simp only at e
      split at e
      · rename_i kt et k n hu
        rw [hy.int_inv]
        cases e
        refine fin _ ?_
        simp [Instr.makeMap, run_und hE hu, asInt, asIntOf]
      · cases e

end Go.Ev
