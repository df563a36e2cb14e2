/- A part of a big-step evaluator of the model's language, with the proof that what it comes to, the model comes to for every tape. No conditions. -/
import Derived.Test.YtpncmonojhlheaaGreatEvOps8
namespace Go.Ev

variable {P : Program} {E : Env} {m : Mp} {h : AH} {w : World}

theorem drew_does {s : Sem Value} {v v' : Value} {h' : AH} {m' : Mp} {w' : World} (hr : Rep m h w) (hs : s.run P w = .ok v' w') (g : Goes m h w.drew m' h' w') (hv : VR m' v v') : Does P m h w s v h' :=
  ⟨v', w', m', hs, (Goes.drew hr).trans g, hv⟩

theorem lenOf_slice {a : Option Addr} {l c : Nat} : lenOf (.slice a l c) = some l := rfl

theorem cutcap_ge {need old : Nat} {e : TypeId} {t : Nat} : need ≤ (Question.appendCap need old e).cut t := by
  simp only [Question.cut]; omega

theorem append_sound (hE : E.Types P) (hr : Rep m h w) {ts : Array Nat} {t : Nat} {s x s' x' v : Value} {h' : AH} (e : E.append ts.toList s x h = some (v, h')) (hs : VR m s s') (hx : VR m x x') :
    Does P m h w (Builtin.append_ ts t #[s', x']) v h' := by
  unfold Env.append at e
  split at e
  · rename_i st xt rest hts
    have h0 : ts[0]? = some st := by rw [← Array.getElem?_toList, hts]; rfl
    have h1 : ts[1]? = some xt := by rw [← Array.getElem?_toList, hts]; rfl
    split at e
    · rename_i el xu base len cap hu hxu
      split at e
      · rename_i i hty
        split at e
        · rename_i z hz
          cases hb : (Nat.ble 1 i.size && Nat.ble 1 i.bytes && Nat.beq (vcells z).length i.size) with
          | false => rw [hb] at e; cases e
          | true =>
            rw [hb] at e
            simp only [cond_true] at e
            simp only [Bool.and_eq_true] at hb
            have hp := Nat.le_of_ble_eq_true hb.1.1
            have hbp := Nat.le_of_ble_eq_true hb.1.2
            cases hmo : more xu i z x h with
            | none => rw [hmo] at e; cases e
            | some nl =>
              obtain ⟨n, l⟩ := nl
              rw [hmo] at e
              simp only [appendT] at e
              obtain ⟨l', hl, hll, hcase⟩ := more_sound (P := P) hE hr hty hz hmo hx
              cases hle : Nat.ble (len + n) cap with
              | true =>
                rw [hle] at e
                simp only [cond_true] at e
                have hle := Nat.le_of_ble_eq_true hle
                -- in place, for sure
                have inplace : ∀ (base' : Option Addr) (cap' : Nat), s' = .slice base' len cap' → cap ≤ cap' →
                    (Builtin.append_ ts t #[s', x']).run P w = (do storeBase base' (len * i.size) l'; pure (.slice base' (len + n) cap') : Sem Value).run P w := by
                  rintro base' cap' rfl hc
                  have := append_run (P := P) (w := w) (t := t) (n := n) (sLen := len) (old := []) (base := base') (sCap := cap') (l' := l') hE h0 h1 hu hxu hty hz hp hbp (.inr (by omega)) (fun hn => (hn (by omega)).elim) hcase
                  rw [this, if_pos (by omega)]
                unfold appendIn at e
                cases base with
                | none =>
                  cases e
                  cases hs
                  have hn : n = 0 := by omega
                  subst hn
                  refine .here hr (v' := .slice none 0 0) ?_ .sliceNil
                  rw [inplace none 0 rfl (Nat.le_refl _)]; rfl
                | some a =>
                  simp only at e
                  split at e
                  · rename_i h1' hst
                    cases e
                    have key : ∀ (b d : Nat) (a' : Addr) (cap' : Nat), m a.block = some (b, d) → s' = .slice (some a') len cap' → cap ≤ cap' → (cap' ≠ 0 → a' = ⟨b, d + a.off, none⟩) →
                        VR m (.slice (some a) (len + n) cap) (.slice (some a') (len + n) cap') → Does P m h w (Builtin.append_ ts t #[s', x']) (.slice (some a) (len + n) cap) h' := by
                      intro b d a' cap' hm hs' hc ha hv
                      obtain ⟨w', r1, r2⟩ := storeN_sound (P := P) hr hst hm hl
                      refine ⟨.slice (some a') (len + n) cap', w', m, ?_, r2, hv⟩
                      rw [inplace (some a') cap' hs' hc]
                      have hrun : (storeBase (some a') (len * i.size) l').run P w = .ok () w' := by
                        by_cases hc0 : cap' = 0
                        · have hn : n = 0 := by omega
                          subst hn
                          have : l = [] := by cases l with
                            | nil => rfl
                            | cons x r => simp at hll
                          subst this
                          have := hl.nil_inv; subst this
                          exact r1
                        · rw [ha hc0]
                          simp only [storeBase, add_none, Nat.add_assoc]
                          exact r1
                      simp only [Sem.run_bind, hrun, Result.andThen_ok, Sem.run_pure]
                    cases hs with
                    | sliceExact hm ha hlc => exact key _ _ _ _ hm rfl (Nat.le_refl _) ha (.sliceExact hm ha hle)
                    | sliceOpen hm hc ha hlc hsz => exact key _ _ _ _ hm rfl hc ha (.sliceOpen hm hc ha hle hsz)
                  · cases e
              | false =>
                rw [hle] at e
                simp only [cond_false] at e
                have hgt : ¬ len + n ≤ cap := fun hh => by rw [Nat.ble_eq_true_of_le hh] at hle; cases hle
                cases hbd : Nat.ble ((2 * (len + n) + 1000) * i.bytes) 281474976710656 with
                | false => rw [hbd] at e; cases e
                | true =>
                  rw [hbd] at e
                  simp only [cond_true] at e
                  have hbd := Nat.le_of_ble_eq_true hbd
                  split at e
                  · rename_i old hold
                    obtain ⟨old', o1, o2⟩ := firstCells_sound (P := P) hr hold hs lenOf_slice (Nat.le_refl _)
                    have holdlen : old.length = len * i.size := by
                      cases hs with
                      | sliceNil => cases hold; simp
                      | sliceExact hm ha hlc => exact (loadN_sound (P := P) hr hold hm).elim fun _ hh => hh.2.2
                      | sliceOpen hm hc ha hlc hsz => exact (loadN_sound (P := P) hr hold hm).elim fun _ hh => hh.2.2
                    have hzs : z.cells.size = i.size := by
                      have := (hE.zero _ _ _ hty hz).2; rw [← vcells_cells] at this; simpa using this
                    -- what the model does where there is no room
                    have grown : ∀ (base' : Option Addr) (cap' : Nat), s' = .slice base' len cap' → ¬ len + n ≤ cap' →
                        ∃ nc c', len + n ≤ nc ∧ (Builtin.append_ ts t #[s', x']).run P w = .ok (.slice (some ⟨w.heap.size, 0, none⟩) (len + n) nc) (w.drew.alloc (.cells c' el)) ∧
                          c'.size = nc * i.size ∧ VRs m (old ++ l) (c'.toList.take (old ++ l).length) := by
                      rintro base' cap' rfl hc
                      have := append_run (P := P) (w := w) (t := t) (n := n) (sLen := len) (old := old') (base := base') (sCap := cap') (l' := l') hE h0 h1 hu hxu hty hz hp hbp (.inl hbd) (fun _ => o1) hcase
                      rw [if_neg hc] at this
                      refine ⟨_, _, cutcap_ge, this, ?_, ?_⟩
                      · have e1 := o2.1
                        have e2 := hl.1
                        generalize hq : (Question.appendCap (len + n) cap' el).cut (w.tape w.drawn (Question.appendCap (len + n) cap' el)) = nc
                        have e3 : len + n ≤ nc := by rw [← hq]; exact cutcap_ge
                        simp only [Array.size_append, List.size_toArray, ← e1, ← e2, holdlen, hll, Builtin.zeroCells, Array.size_map, Array.size_range, hzs]
                        rw [← Nat.add_mul, ← Nat.add_mul]
                        congr 1; omega
                      · have e1 := o2.append hl
                        simp only [Array.toList_append]
                        rw [List.take_append_of_le_length (by have := e1.1; simp at this ⊢; omega)]
                        rw [List.take_of_length_le (by have := e1.1; simp at this ⊢; omega)]
                        exact e1
                    -- and what comes of it
                    have fresh : ∀ (h2 : AH) (nc : Nat) (c' : Array Value), Rep m h2 w → h2.next = h.next → len + n ≤ nc → c'.size = nc * i.size → VRs m (old ++ l) (c'.toList.take (old ++ l).length) →
                        Goes m h2 w.drew (more1 m h2 w.drew (.cells c' el)) (h2.new (.cells (old ++ l) false)) (w.drew.alloc (.cells c' el)) ∧
                          VR (more1 m h2 w.drew (.cells c' el)) (.slice (some ⟨h.next, 0, some i.size⟩) (len + n) (len + n)) (.slice (some ⟨w.heap.size, 0, none⟩) (len + n) nc) := by
                      intro h2 nc c' hr2 hn2 hnc hsz hvs
                      have hr2' := drew_rep hr2
                      have he := ext_more hr2' (.cells c' el)
                      refine ⟨.new hr2' (.cells (fun _ => rfl) ?_ ?_), ?_⟩
                      · have := hvs.1; simp at this ⊢; omega
                      · intro k v hk
                        obtain ⟨y, y1, y2⟩ := hvs.get hk
                        rw [List.getElem?_take] at y1
                        split at y1
                        · rw [Array.getElem?_toList] at y1
                          exact ⟨y, by simpa using y1, y2.mono he⟩
                        · cases y1
                      · refine .sliceOpen (b := w.heap.size) (d := 0) ?_ hnc (fun _ => rfl) (Nat.le_refl _) (fun _ => ?_)
                        · rw [← hn2]; exact more1_self ..
                        · show 0 + 0 + nc * i.size ≤ (if w.heap.size = w.heap.size then c'.size else _)
                          rw [if_pos rfl]; omega
                    have renew : ∀ (base' : Option Addr) (cap' : Nat) (h2 : AH), s' = .slice base' len cap' → ¬ len + n ≤ cap' → Goes m h w m h2 w → h2.next = h.next →
                        Does P m h w (Builtin.append_ ts t #[s', x']) (.slice (some ⟨h.next, 0, some i.size⟩) (len + n) (len + n)) (h2.new (.cells (old ++ l) false)) := by
                      intro base' cap' h2 hs' hc g2 hn2
                      obtain ⟨nc, c', g3, g4, g5, g6⟩ := grown base' cap' hs' hc
                      obtain ⟨f1, f2⟩ := fresh h2 nc c' g2.rep hn2 g3 g5 g6
                      exact ⟨_, _, _, g4, (g2.trans (Goes.drew g2.rep)).trans f1, f2⟩
                    unfold appendNew at e
                    cases hs with
                    | sliceNil =>
                      cases e
                      exact renew none 0 h rfl (by omega) (.refl hr) rfl
                    | sliceExact hm ha hlc =>
                      cases e
                      exact renew _ _ h rfl hgt (.refl hr) rfl
                    | @sliceOpen a0 o b d _ _ cap' sp a' hm hc ha hlc hsz =>
                      simp only at e
                      cases hsp : (Nat.beq sp i.size && l.all isCell) with
                      | false => rw [hsp] at e; cases e
                      | true =>
                        rw [hsp] at e
                        rw [Bool.and_eq_true] at hsp
                        obtain ⟨hsp, hall⟩ := hsp
                        have hsp := Nat.eq_of_beq_eq_true hsp
                        subst hsp
                        simp only [cond_true] at e
                        split at e
                        · rename_i c0 hw0
                          cases e
                          by_cases hroom : len + n ≤ cap'
                          · -- the model goes on in the same block
                            have hg := wcells_get hw0
                            have hc0 : cap' ≠ 0 := by omega
                            have ha' := ha hc0
                            subst ha'
                            have hsz' := hsz hc0
                            obtain ⟨c', e', fz, q1, q2, q3, q4⟩ := rep_cells hr hg hm
                            have := q2 rfl; subst this
                            have hcs := hr.sized _ _ _ _ _ _ _ hg hm q1
                            have hmul : (len + n) * i.size ≤ cap' * i.size := Nat.mul_le_mul_right _ hroom
                            have hadd : (len + n) * i.size = len * i.size + n * i.size := Nat.add_mul ..
                            have hln : l'.length = n * i.size := by rw [← hl.1, hll]
                            have hcell : ∀ v ∈ l', v.oneCell' = true := hl.all_cell hall
                            obtain ⟨w', c'', r1, r2, r3, r4, r5, r6, r7, r8, r9⟩ := storeCells_run (P := P) b (d + o + len * i.size) l' 0 w c' e' q1 (by omega) hcell
                            have hrun := append_run (P := P) (w := w) (t := t) (n := n) (sLen := len) (old := old') (base := some ⟨b, d + o, none⟩) (sCap := cap') (l' := l') hE h0 h1 hu hxu hty hz hp hbp (.inl hbd) (fun _ => o1) hcase
                            rw [if_pos hroom] at hrun
                            have hrun2 : (Builtin.append_ ts t #[.slice (some ⟨b, d + o, none⟩) len cap', x']).run P w = .ok (.slice (some ⟨b, d + o, none⟩) (len + n) cap') w' := by
                              rw [hrun]
                              simp only [Sem.run_bind, storeBase, add_none, r1, Result.andThen_ok, Sem.run_pure]
                            have he : Ext m (upd m h.next (b, d + o) (m.sz b)) := ext_upd (hr.fresh h.next (Nat.le_refl _)).1 (fun _ _ _ => rfl)
                            refine ⟨_, w', upd m h.next (b, d + o) (m.sz b), hrun2, Goes.move hr hg hm (.cells (fun _ => rfl) ?_ ?_) ?_ r2 r3 r6 r7 r8 r9, ?_⟩
                            · rw [r4]; simp only [List.length_append, holdlen, hll]; omega
                            · intro k v hk
                              rw [r5]
                              by_cases hkl : k < len * i.size
                              · rw [List.getElem?_append_left (by omega)] at hk
                                rw [if_neg (by omega)]
                                have hld : h.loadN a0 o (len * i.size) = some old := hold
                                unfold AH.loadN at hld
                                rw [show h.cells a0 = some c0 from by unfold AH.cells; rw [hg]] at hld
                                simp only at hld
                                cases hbb : Nat.ble (o + len * i.size) c0.length with
                                | false => rw [hbb] at hld; cases hld
                                | true =>
                                  rw [hbb] at hld
                                  simp only [cond_true, Option.some.injEq] at hld
                                  rw [← hld, List.getElem?_take, if_pos hkl, List.getElem?_drop] at hk
                                  obtain ⟨y, y1, y2⟩ := q4 _ _ hk
                                  exact ⟨y, by rw [Nat.add_assoc]; exact y1, y2.mono he⟩
                              · rw [List.getElem?_append_right (by omega), holdlen] at hk
                                have hlt : k - len * i.size < l.length := by
                                  rcases Nat.lt_or_ge (k - len * i.size) l.length with hh | hh
                                  · exact hh
                                  · rw [List.getElem?_eq_none hh] at hk; cases hk
                                rw [if_pos (by omega)]
                                obtain ⟨y, y1, y2⟩ := hl.get hk
                                exact ⟨y, by rw [show d + o + k - (d + o + len * i.size + 0) = k - len * i.size from by omega]; exact y1, y2.mono he⟩
                            · intro c1 e1 fz1 hx1; cases hx1; rw [r4]; exact hcs
                            · refine .sliceOpen (upd_self ..) hroom (fun _ => rfl) (Nat.le_refl _) (fun _ => ?_)
                              show d + o + 0 + cap' * i.size ≤ (if b = b then m.sz b else m.sz b)
                              rw [if_pos rfl]; omega
                          · exact renew _ _ (h.kill a0) rfl hroom (Goes.kill hr a0 (fun c e => by rw [wcells_get hw0] at e; cases e)) rfl
                        · cases e
                  · cases e
        · cases e
      · cases e
    · cases e
  · cases e

end Go.Ev
