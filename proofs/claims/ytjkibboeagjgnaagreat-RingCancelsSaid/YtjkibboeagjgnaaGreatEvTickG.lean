/- A map's keys that are ints, sorted: a contract, out of a call of the model's. No conditions beyond those that it names. -/
import Derived.Test.YtjkibboeagjgnaaGreatEvGrow
import Derived.Lib.SlKeysI
import Derived.Maps.Own
namespace Go.Ev
open Go.RowKit Go.Maps Go.MapKept Go.WideElems

def intKeysOf : List MapEntry → Option (List Int)
  | [] => some []
  | e :: r => match e.key with
    | .int k n => cond (kindEq k .i64 && (ile (-9223372036854775808) n && ile n 9223372036854775807)) (match intKeysOf r with | some l => some (n :: l) | none => none) none
    | _ => none
def insI (x : Int) : List Int → List Int
  | [] => [x]
  | y :: r => cond (ile x y) (x :: y :: r) (y :: insI x r)
def sortI : List Int → List Int
  | [] => []
  | x :: r => insI x (sortI r)
def freshI : List Int → Bool
  | [] => true
  | x :: r => r.all (fun y => !(ieq x y)) && freshI r
def freshN : List Nat → Bool
  | [] => true
  | x :: r => r.all (fun y => !(Nat.beq x y)) && freshN r
noncomputable def tickRes (ks : List Int) (h : AH) : Value × AH := match sortI ks with
  | [] => (.slice none 0 0, h)
  | x :: r => (.slice (some ⟨h.next, 0, some 1⟩) (r.length + 1) (r.length + 1), h.new (.cells ((x :: r).map fun n => .int .i64 n) false))
noncomputable def tickRun (off : Nat) (args : List Value) (h : AH) : Option (Value × AH) :=
  match args with
  | [v] => atAddr v fun b o => (match h.load1 b (o + off) with
    | some (.map (some r)) => (match h.map r with
      | some (es, clock) => (match intKeysOf es with
        | some ks => cond (Nat.ble es.length 1000000 && (es.all (fun e => Nat.blt e.born clock) && (freshN (es.map (·.born)) && freshI ks))) (some (tickRes ks h)) none
        | none => none)
      | none => none)
    | _ => none)
  | _ => none
noncomputable def conTick (off : Nat) : Con := ⟨fun _ _ => True, tickRun off⟩

theorem insI_perm (x : Int) : ∀ r : List Int, (insI x r).Perm (x :: r)
  | [] => .refl _
  | y :: r => by
    unfold insI
    cases ile x y
    · exact ((insI_perm x r).cons y).trans (.swap x y r)
    · exact .refl _
theorem sortI_perm : ∀ l : List Int, (sortI l).Perm l
  | [] => .refl _
  | x :: l => (insI_perm x _).trans ((sortI_perm l).cons x)
theorem insI_sorted (x : Int) : ∀ r : List Int, r.Pairwise (fun a b => a ≤ b) → (insI x r).Pairwise fun a b => a ≤ b
  | [], _ => by simp [insI]
  | y :: r, h => by
    unfold insI
    have hc := List.pairwise_cons.1 h
    cases hx : ile x y with
    | false =>
      rw [ile_f] at hx
      refine List.pairwise_cons.2 ⟨fun a ha => ?_, insI_sorted x r hc.2⟩
      rcases List.mem_cons.1 ((insI_perm x r).mem_iff.1 ha) with rfl | ha
      · omega
      · exact hc.1 a ha
    | true =>
      rw [ile_t] at hx
      refine List.pairwise_cons.2 ⟨fun a ha => ?_, h⟩
      rcases List.mem_cons.1 ha with rfl | ha
      · exact hx
      · exact Int.le_trans hx (hc.1 a ha)
theorem sortI_sorted : ∀ l : List Int, (sortI l).Pairwise fun a b => a ≤ b
  | [] => .nil
  | x :: l => insI_sorted x _ (sortI_sorted l)
theorem sortI_eq (l : List Int) : sortI l = l.mergeSort leI := by
  have tr : ∀ a b c : Int, leI a b = true → leI b c = true → leI a c = true := fun a b c h1 h2 => by simp only [leI, decide_eq_true_eq] at *; exact Int.le_trans h1 h2
  have to : ∀ a b : Int, (leI a b || leI b a) = true := fun a b => by simp only [leI, Bool.or_eq_true, decide_eq_true_eq]; exact Int.le_total a b
  refine List.Perm.eq_of_pairwise (le := fun a b => leI a b = true) (fun a b _ _ h1 h2 => ?_) ((sortI_sorted l).imp fun h => by simpa [leI] using h) (List.pairwise_mergeSort tr to l) ((sortI_perm l).trans (List.mergeSort_perm l leI).symm)
  simp only [leI, decide_eq_true_eq] at h1 h2
  exact Int.le_antisymm h1 h2

theorem freshN_nodup : ∀ l : List Nat, freshN l = true → l.Nodup
  | [], _ => .nil
  | x :: r, h => by
    simp only [freshN, Bool.and_eq_true, List.all_eq_true] at h
    refine List.nodup_cons.2 ⟨fun hm => ?_, freshN_nodup r h.2⟩
    have := h.1 x hm
    simp at this
theorem freshI_nodup : ∀ l : List Int, freshI l = true → l.Nodup
  | [], _ => .nil
  | x :: r, h => by
    simp only [freshI, Bool.and_eq_true, List.all_eq_true] at h
    refine List.nodup_cons.2 ⟨fun hm => ?_, freshI_nodup r h.2⟩
    have := h.1 x hm
    rw [ieq_eq] at this
    simp at this

theorem intKeysOf_some : ∀ (es : List MapEntry) (ks : List Int), intKeysOf es = some ks → es.map (·.key) = ks.map (fun n => Value.int .i64 n) ∧ ∀ n ∈ ks, -9223372036854775808 ≤ n ∧ n ≤ 9223372036854775807
  | [], ks, h => by cases h; exact ⟨rfl, fun n hn => by cases hn⟩
  | e :: r, ks, h => by
    unfold intKeysOf at h
    split at h
    · rename_i k n hk
      cases hc : (kindEq k .i64 && (ile (-9223372036854775808) n && ile n 9223372036854775807)) with
      | false => rw [hc] at h; cases h
      | true =>
        rw [hc] at h
        simp only [cond_true] at h
        simp only [Bool.and_eq_true] at hc
        obtain ⟨h1, h2, h3⟩ := hc
        rw [ile_t] at h2 h3
        rw [kindEq_eq] at h1
        subst h1
        split at h
        · rename_i l hl
          cases h
          obtain ⟨i1, i2⟩ := intKeysOf_some r l hl
          refine ⟨by simp [hk, i1], fun m hm => ?_⟩
          rcases List.mem_cons.1 hm with rfl | hm
          · exact ⟨h2, h3⟩
          · exact i2 m hm
        · cases h
    · cases h

variable {P : Program}

/-- what the model's function does, in the kit's words -/
def TickAt (P : Program) (f off k : Nat) : Prop := ∀ (b nn bc oc : Nat) (D0 : DataW Unit) (R : Value → Option (DataW Unit × List MemPlace)) (w : World), w.cell? ⟨bc, oc + off, none⟩ = some (.map (some b)) → w.ownsMap P k R b nn D0 → Maps.size D0 ≤ maxLen → Maps.size D0 * 8 ≤ 140737488355328 →
  Calls P f #[.pointer (some ⟨bc, oc, none⟩)] w fun e w' => ∃ (v : Value) (ss : List Int), e = .returned v ∧ ss.Perm (intKeys D0) ∧
    w'.ownsRow w.heap.size k 1 v ss.length ((ss.mergeSort (fun x y => decide (x ≤ y))).map encZ) ∧ (v = .slice none 0 0 ↔ ss = []) ∧ Below w.heap.size w w'

theorem tick_holds {f off k : Nat} (hf : Callable P f) (hk : P.underlying k = some (.int .i64)) (ht : TickAt P f off k) : (conTick off).Holds P f := by
  refine ⟨hf, fun args h v h' _ e m w a' ha hr => ?_⟩
  have e : tickRun off args h = some (v, h') := e
  unfold tickRun at e
  split at e
  · rename_i v0
    unfold atAddr at e
    split at e
    · rename_i a0
      split at e
      · rename_i a
        split at e
        · rename_i hs
          obtain ⟨ab, ao, as⟩ := a
          simp only at hs e
          subst hs
          split at e
          · rename_i r hl
            split at e
            · rename_i es clock hm
              split at e
              · rename_i ks hks
                cases hg : (Nat.ble es.length 1000000 && (es.all (fun e => Nat.blt e.born clock) && (freshN (es.map (·.born)) && freshI ks))) with
                | false => rw [hg] at e; cases e
                | true =>
                  rw [hg] at e
                  simp only [cond_true, Option.some.injEq] at e
                  simp only [Bool.and_eq_true, List.all_eq_true] at hg
                  obtain ⟨g1, g2, g3, g4⟩ := hg
                  have g1 := Nat.le_of_ble_eq_true g1
                  have g3 := freshN_nodup _ g3
                  have g4 := freshI_nodup _ g4
                  obtain ⟨i1, i2⟩ := intKeysOf_some es ks hks
                  -- the argument
                  obtain ⟨x0, l0, hl0, hx0, hl0'⟩ := ha.cons_inv
                  have : l0 = [] := List.eq_nil_of_length_eq_zero (by simpa using hl0'.1.symm)
                  subst this
                  have haa : a' = #[x0] := by apply Array.ext'; simpa using hl0
                  subst haa
                  cases hx0 with
                  | @ptr _ _ bb d hmb =>
                    -- its cell
                    unfold AH.load1 at hl
                    split at hl
                    · rename_i c hc
                      obtain ⟨ro, hgc⟩ := cells_get hc
                      rw [nth_eq] at hl
                      obtain ⟨y, hy, hvy⟩ := cell_at hr hgc hmb hl
                      cases hvy with
                      | @map _ rb hrb =>
                        obtain ⟨es', _, hb, _, hlen, hes⟩ := rep_mapobj hr hm hrb
                        have hpt : ∀ (i : Nat) (x y : MapEntry), es[i]? = some x → es'.toList[i]? = some y → y.key = x.key ∧ y.born = x.born := by
                          intro i x y hx hy
                          obtain ⟨q1, q2, q3⟩ := hes i x y hx hy
                          refine ⟨?_, q3.symm⟩
                          have hmem : x.key ∈ es.map (·.key) := List.mem_map.2 ⟨x, List.mem_of_getElem? hx, rfl⟩
                          rw [i1] at hmem
                          obtain ⟨n, _, hn⟩ := List.mem_map.1 hmem
                          rw [← hn] at q1 ⊢
                          generalize y.key = yk at q1 ⊢
                          cases q1; rfl
                        have hkeys : es'.toList.map (·.key) = es.map (·.key) := by
                          refine List.ext_getElem? fun i => ?_
                          rw [List.getElem?_map, List.getElem?_map]
                          cases hx : es[i]? with
                          | none => rw [List.getElem?_eq_none (by rw [← hlen]; exact List.getElem?_eq_none_iff.1 hx)]
                          | some x =>
                            cases hy : es'.toList[i]? with
                            | none => have h1 := List.getElem?_eq_none_iff.1 hy; have h2 := (List.getElem?_eq_some_iff.1 hx).1; omega
                            | some y => simp only [Option.map_some, (hpt i x y hx hy).1]
                        have hborns : es'.toList.map (·.born) = es.map (·.born) := by
                          refine List.ext_getElem? fun i => ?_
                          rw [List.getElem?_map, List.getElem?_map]
                          cases hx : es[i]? with
                          | none => rw [List.getElem?_eq_none (by rw [← hlen]; exact List.getElem?_eq_none_iff.1 hx)]
                          | some x =>
                            cases hy : es'.toList[i]? with
                            | none => have h1 := List.getElem?_eq_none_iff.1 hy; have h2 := (List.getElem?_eq_some_iff.1 hx).1; omega
                            | some y => simp only [Option.map_some, (hpt i x y hx hy).2]
                        have hlen2 : es'.size = es.length := by rw [hlen]; simp
                        have hstamp : Stamped es' clock := by
                          refine ⟨fun x hx => ?_, by rw [hborns]; exact g3, by rw [hkeys, i1]; exact List.Pairwise.map _ (fun a b hab => by simpa using hab) g4⟩
                          have : x.born ∈ es'.toList.map (·.born) := List.mem_map.2 ⟨x, hx, rfl⟩
                          rw [hborns] at this
                          obtain ⟨z, hz, hzb⟩ := List.mem_map.1 this
                          rw [← hzb]
                          exact Nat.le_of_ble_eq_true (g2 z hz)
                        have hkey : ∀ x ∈ es'.toList, ∃ n, x.key = .int .i64 n ∧ keyOf P k x.key = some (.int .i64 n) := by
                          intro x hx
                          have : x.key ∈ es'.toList.map (·.key) := List.mem_map.2 ⟨x, hx, rfl⟩
                          rw [hkeys, i1] at this
                          obtain ⟨n, hn, hnk⟩ := List.mem_map.1 this
                          refine ⟨n, hnk.symm, ?_⟩
                          rw [← hnk]
                          refine keyOf_int_mk hk ?_
                          have := i2 n hn
                          simp only [Lit.wf, Bool.and_eq_true, decide_eq_true_eq]
                          exact this
                        have hmax : es'.size ≤ maxLen := by rw [hlen2]; unfold maxLen; omega
                        have hown : w.ownsMap P k (fun _ => some ((.nil : DataW Unit), [])) rb es'.size (.map ((es'.toList.map (rg P k fun _ => some ((.nil : DataW Unit), []))).foldr DataW.insert [])) := by
                          refine ⟨es', clock, hb, ⟨hmax, hstamp, fun x hx => ?_⟩, Nat.le_refl _, rfl⟩
                          obtain ⟨n, _, h2⟩ := hkey x hx
                          exact ⟨_, rd_mk h2 rfl⟩
                        have hik : (intKeys (.map ((es'.toList.map (rg P k fun _ => some ((.nil : DataW Unit), []))).foldr DataW.insert []))).Perm ks := by
                          have h1 := (WideShapes.sorted_perm (es'.toList.map (rg P k fun _ => some ((.nil : DataW Unit), [])))).map (fun p => intOf p.1)
                          refine h1.trans ?_
                          have h2 : (es'.toList.map (rg P k fun _ => some ((.nil : DataW Unit), []))).map (fun p => intOf p.1) = ks := by
                            have h3 : (es'.toList.map (·.key)).map (fun v => match v with | .int _ n => n | _ => 0) = ks := by
                              rw [hkeys, i1, List.map_map]
                              exact List.map_id' ks
                            rw [← h3, List.map_map, List.map_map]
                            refine List.map_congr_left fun x hx => ?_
                            obtain ⟨n, hn, h2⟩ := hkey x hx
                            show intOf (rg P k _ x).1 = _
                            rw [rg_of (rd_mk (born := x.born) h2 rfl)]
                            show intOf _ = (match x.key with | .int _ n => n | _ => 0)
                            rw [hn]; rfl
                          rw [h2]
                        have hsz : Maps.size (.map ((es'.toList.map (rg P k fun _ => some ((.nil : DataW Unit), []))).foldr DataW.insert []) : DataW Unit) = es'.size := by
                          show (List.foldr DataW.insert [] _).length = _
                          rw [(WideShapes.sorted_perm _).length_eq]; simp
                        refine .of_calls ((ht rb es'.size bb (d + ao) _ _ w (by rw [Nat.add_assoc]; exact hy) hown (by rw [hsz]; exact hmax) (by rw [hsz, hlen2]; omega)).mono fun en w' ⟨v', ss, he, hp, hrow, hnil, hbl⟩ => ?_)
                        have hss : sortI ks = ss.mergeSort leI := by rw [sortI_eq]; exact (mergeSort_of_perm_i (hp.trans hik)).symm
                        have hlss : (ss.mergeSort leI).length = ss.length := List.length_mergeSort ss
                        rcases hrow.2 with ⟨hv, hz⟩ | ⟨g, cap, cur, hv, hbase, hgb, r1, r2, r3, r4⟩
                        · have : ss = [] := List.eq_nil_of_length_eq_zero hz
                          subst this
                          unfold tickRes at e
                          rw [hss] at e
                          simp only [List.mergeSort_nil] at e
                          cases e
                          exact ⟨m, v', he, by rw [hv]; exact .sliceNil, .grown hr hbl⟩
                        · have hne : ss ≠ [] := fun h0 => by rw [hnil.2 h0] at hv; cases hv
                          unfold tickRes at e
                          rw [hss] at e
                          cases hms : ss.mergeSort leI with
                          | nil => rw [hms] at hlss; exact absurd (List.eq_nil_of_length_eq_zero hlss.symm) hne
                          | cons x l =>
                            rw [hms] at e hlss
                            simp only [Prod.mk.injEq] at e
                            obtain ⟨rfl, rfl⟩ := e
                            have hll : l.length + 1 = ss.length := by simpa using hlss
                            have hx4 : cur.toList.take ss.length = (x :: l).map encZ := by rw [← hms]; simpa using r4
                            refine ⟨upd m h.next (g, 0) cur.size, v', he, ?_, Goes.grown_new hr hbl hbase hgb (.cells (fun _ => rfl) ?_ ?_)⟩
                            · rw [hv]
                              rw [hll]
                              refine .sliceOpen (b := g) (d := 0) (i := 0) (upd_self ..) r1 (fun _ => rfl) (Nat.le_refl _) (fun _ => ?_)
                              show 0 + 0 + cap * 1 ≤ (if g = g then cur.size else _)
                              rw [if_pos rfl, r3]; omega
                            · have : ((x :: l).map fun n => Value.int .i64 n).length = ss.length := by simpa using hll
                              omega
                            · intro i y hy
                              have h5 := congrArg (fun q => q[i]?) hx4
                              have hi : i < ss.length := by
                                have := (List.getElem?_eq_some_iff.1 hy).1
                                simp at this; omega
                              simp only [List.getElem?_take, if_pos hi] at h5
                              have hy' : ((x :: l).map encZ)[i]? = some y := hy
                              rw [hy'] at h5
                              refine ⟨y, by rw [Nat.zero_add, ← Array.getElem?_toList]; exact h5, ?_⟩
                              obtain ⟨z, _, hz⟩ := List.mem_map.1 (List.mem_of_getElem? hy')
                              rw [← hz]; exact .int .i64 z
                    · cases hl
              · cases e
            · cases e
          · cases e
        · cases e
      · cases e
    · cases e
  · cases e

end Go.Ev
