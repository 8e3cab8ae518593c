/- Stores: the operation. -/
import Derived.Test.YtnahhhaicalmcaaDoorAbImp3
set_option linter.unusedVariables false
set_option linter.unusedSimpArgs false
namespace Go.Ab
open Go.RowKit
variable {C : Ctx} {P : Program}

theorem entry_of (ok : CtxOk P C) {H : View} {ι : Own} {st : St} {w : World} (hb : ∀ id, BlkOk C H ι st.sto w id) (hH : H.le (World.view w)) {t : Nat} {x : AV} {v : Value} (hf : fitsArg C st t x = true) (r : RepA C H ι st.sto x v) :
    v.cells.size = C.sz t ∧ IsVal C t v v.cells.toList ∧ (∀ u ∈ v.cells.toList, u.oneCell' = true) ∧ ∀ u, x.flat = some u → Rep C H t v.cells.toList u := by
  by_cases hs : ∃ fs, C.te t = some (.st fs)
  · obtain ⟨fs, hte⟩ := hs
    cases x with
    | st t' u =>
      simp [fitsArg, hte, fitsT, nbeq] at hf
      subst hf
      obtain ⟨cs, fs', h1, rfl, h2⟩ := r
      refine ⟨by simpa [Value.cells] using h2.length ok, by simp [IsVal, hte, Value.cells], by simpa [Value.cells] using h2.cells1, fun u' hu' => ?_⟩
      simp [AV.flat] at hu'; subst hu'
      simpa [Value.cells] using h2
    | _ => simp [fitsArg, hte, fitsT] at hf
  · have hne : ∀ fs, C.te t ≠ some (.st fs) := fun fs e => hs ⟨fs, e⟩
    obtain ⟨e1, e2⟩ := fits_one hf hne (fun _ _ _ => trivial) r (ow_slice hb hH hf r)
    have hty : ∃ ty, C.te t = some ty := by
      cases ht : C.te t with
      | none => cases x <;> simp [fitsArg, ht, fitsT] at hf
      | some ty => exact ⟨ty, rfl⟩
    obtain ⟨ty, ht⟩ := hty
    have hsz : C.sz t = 1 := ok.one t ty ht (fun fs e => hne fs (e ▸ ht))
    refine ⟨by simp [e1, hsz], by rw [e1]; exact isVal_one hne, by simpa [e1] using e2, fun u hu => ?_⟩
    have hto : x.toU st = some u := by cases x <;> simp_all [AV.toU, AV.flat]
    obtain ⟨cs, k1, k2⟩ := toU_rep hb (View.le.refl _) (fun id hid => by cases x <;> simp_all [AV.flat, ownsOf]) r hf hto
    rw [isVal_inj k1 (isVal_one hne)] at k2
    simpa [e1] using k2

theorem run_storeVar (ok : CtxOk P C) {t : Nat} (hp : isPtr C t = false) {w : World} {g o t0 : Nat} {cur : Array Value} (hg : w.heap[g]? = some (.cells cur t0 (0, 0))) {v : Value} (hs : v.cells.size = C.sz t) (hfit : o + v.cells.size ≤ cur.size) (h1 : ∀ u ∈ v.cells.toList, u.oneCell' = true) :
    (Instr.storeAt t (.pointer (some ⟨g, o, none⟩)) v).run P w = .ok () (w.setRow g (splice cur.toList o v.cells.toList).toArray) := by
  obtain ⟨ty, ht, hn⟩ := notPtr hp
  have := run_storeCells_at P g o t0 v.cells.toList 0 cur w hg (by simpa using hfit) h1
  simp only [Nat.add_zero] at this
  simp only [Instr.storeAt, Instr.sureAddr, storeVar, Sem.run_bind, Sem.run_pure, Result.andThen_ok, ok.sizeOf ht hn, hs, ne_eq, not_true_eq_false, if_false]
  exact this

theorem keep_setRow (w : World) (g : Nat) (cs : Array Value) : Keep (fun b => some b = some g) w (w.setRow g cs) :=
  ⟨rfl, rfl, rfl, by simp, Nat.le_refl _, fun k _ hk => setRow_other w g k _ (fun e => hk (by simp [e]))⟩

theorem StoLe.box {ι : Own} {st : St} {id t : Nat} {vs vs' : List AV} (hs : st.sto id = some (.box t vs)) : StoLe ι st.sto ι (st.blk id (.box t vs')).sto := by
  intro i
  by_cases hi : i = id
  · subst hi; rw [hs]; exact .inr ⟨rfl, vs', by simp [St.blk, nbeq]⟩
  · have : (st.blk id (.box t vs')).sto i = st.sto i := by simp [St.blk, nbeq, hi]
    rw [this]; exact StoLe.refl ι st.sto i
theorem StoLe.arr {ι : Own} {st : St} {id e : Nat} {z z' : Bool} {xs xs' : List U} (hs : st.sto id = some (.arr e z xs)) (hl : xs'.length = xs.length) : StoLe ι st.sto ι (st.blk id (.arr e z' xs')).sto := by
  intro i
  by_cases hi : i = id
  · subst hi; rw [hs]; exact .inr ⟨rfl, z', xs', by simp [St.blk, nbeq], hl⟩
  · have : (st.blk id (.arr e z' xs')).sto i = st.sto i := by simp [St.blk, nbeq, hi]
    rw [this]; exact StoLe.refl ι st.sto i

/-- a box's cells are written anew -/
theorem store_box {f : Fr} (hf : FrOk f) {ι : Own} {st : St} {a : Act} {w : World} (s : Sim C f ι st a w) {id t : Nat} {vs vs' : List AV} (hs : st.sto id = some (.box t vs)) {g : Nat} {cur : Array Value} {cs : List Value}
    (hi : ι id = .pointer (some ⟨g, 0, none⟩)) (hg : w.heap[g]? = some (.cells cur t (0, 0))) (hv : RepVs C (view f ι st.sto w) ι st.sto (boxTs C t) vs' cs) (hte : ∃ ty, C.te t = some ty) :
    Sim C f ι (st.blk id (.box t vs')) a (w.setRow g cs.toArray) := by
  have hle := StoLe.box (ι := ι) (vs' := vs') hs
  refine (s.upd hf hs (live_box hs) hle ((keep_setRow w g cs.toArray).weaken (fun b hb => by rw [hi]; simpa [blkOf] using hb.symm)) (fun hl => ?_)).1
  unfold BlkOk
  have : (st.blk id (.box t vs')).sto id = some (.box t vs') := by simp [St.blk, nbeq]
  rw [this]
  refine ⟨g, cs.toArray, hi, setRow_heap w g cur _ t _ hg, hte, ?_⟩
  simpa using hv.mono hl hle

theorem path_ty (ok : CtxOk P C) : ∀ {p : List Nat} {t : Nat}, p ≠ [] → okPath C t p → ∃ ty, C.te (ptype C t p) = some ty ∧ ∀ e, ty ≠ .ptr e := by
  intro p
  induction p with
  | nil => intro t h; exact (h rfl).elim
  | cons j p ih =>
    intro t _ ⟨fs, h1, h2, h3⟩
    have e : ftype C t j = nthN fs j := by simp [ftype, h1]
    simp only [ptype, e]
    cases p with
    | nil => exact ok.fields t fs _ h1 (nthN_mem h2)
    | cons k p => exact ih (by simp) h3

theorem astore_sound (ok : CtxOk P C) {f : Fr} (hf : FrOk f) {ι : Own} {st st' : St} {a : Act} {w : World} (s : Sim C f ι st a w) {t : Nat} {xa xv : AV} {va v : Value} (h : astore C st t xa xv = some st')
    (ra : RepA C (view f ι st.sto w) ι st.sto xa va) (rv : RepA C (view f ι st.sto w) ι st.sto xv v) :
    ∃ w', (Instr.storeAt t va v).run P w = .ok () w' ∧ Sim C f ι st' a w' := by
  unfold astore at h
  have hp : isPtr C t = false := by
    cases hp : isPtr C t with
    | true => rw [hp] at h; simp at h
    | false => rfl
  rw [hp] at h
  simp only [cond_false] at h
  cases xa with
  | pb id p =>
    simp only at h
    cases hs : st.sto id with
    | none => simp [hs] at h
    | some b =>
      cases b with
      | box t' vs =>
        simp only [hs] at h
        have r' : RepPb C ι st.sto id p va := ra
        unfold RepPb at r'
        rw [hs] at r'
        obtain ⟨hok, g, hi, rfl⟩ := r'
        obtain ⟨g', cur, e1, hg, hte, hvs⟩ := (s.blk id).box hs
        rw [hi] at e1; cases e1
        have hcur : cur.size = ((boxTs C t').map C.sz).sum := by simpa using hvs.length.2
        -- the whole box
        have whole : Nat.beq t t' = true → p = [] → ∀ vs', unbox C st t' xv = some vs' → st' = st.blk id (.box t' vs') → ∃ w', (Instr.storeAt t (.pointer (some ⟨g, poff C t' p, none⟩)) v).run P w = .ok () w' ∧ Sim C f ι st' a w' := by
          intro ht hpn vs' hun hst
          simp only [nbeq, decide_eq_true_eq] at ht
          subst ht; subst hpn; subst hst
          obtain ⟨u1, u2, u3⟩ := unbox_sound ok s.blk (s.vle hf) hun rv
          have hlen : v.cells.size = cur.size := by rw [hcur, ← u1.length.2]; simp
          refine ⟨_, run_storeVar ok hp hg u2 (by simp [poff]; omega) u3, ?_⟩
          simp only [poff]
          rw [splice_all _ _ (by simpa using hlen)]
          exact store_box hf s hs hi hg u1 hte
        cases hte' : C.te t' with
        | none => simp only [hte'] at h; obtain ⟨ty, hty⟩ := hte; rw [hte'] at hty; cases hty
        | some ty =>
          simp only [hte'] at h
          have one : p = [] → (bif Nat.beq t t' then (unbox C st t' xv).map fun vs => st.blk id (.box t' vs) else none) = some st' → ∃ w', (Instr.storeAt t (.pointer (some ⟨g, poff C t' p, none⟩)) v).run P w = .ok () w' ∧ Sim C f ι st' a w' := by
            intro hp h
            obtain ⟨hc, h⟩ := cond_some h
            simp only [Option.map_eq_some_iff] at h
            obtain ⟨vs', hun, rfl⟩ := h
            exact whole hc hp vs' hun rfl
          cases ty with
          | st fs =>
            cases p with
            | nil => exact one rfl h
            | cons j p =>
              obtain ⟨hc, h2⟩ := cond_some h
              clear h
              simp only [nbeq, Bool.and_eq_true, decide_eq_true_eq] at hc
              obtain ⟨rfl, hj⟩ := hc
              simp only [Option.map_eq_some_iff] at h2
              obtain ⟨x, hx, rfl⟩ := h2
              rw [boxTs_st hte'] at hvs hcur
              have e : ftype C t' j = nthN fs j := by simp [ftype, hte']
              obtain ⟨fs2, hf1, hf2, hok'⟩ := hok
              rw [hte'] at hf1; cases hf1
              simp only [ptype, e] at hp ⊢
              -- what the variable is afterwards
              have key : ∃ cs val, v.cells.size = C.sz (ptype C (nthN fs j) p) ∧ (∀ u ∈ v.cells.toList, u.oneCell' = true) ∧ cs.length = C.sz (nthN fs j) ∧ IsVal C (nthN fs j) val cs ∧ RepA C (view f ι st.sto w) ι st.sto x val ∧ (∀ u ∈ cs, u.oneCell' = true) ∧
                  (∀ u, x.flat = some u → Rep C (view f ι st.sto w) (nthN fs j) cs u) ∧ splice cur.toList (fieldOff C fs j + poff C (nthN fs j) p) v.cells.toList = splice cur.toList (fieldOff C fs j) cs ∧ poff C (nthN fs j) p + v.cells.size ≤ C.sz (nthN fs j) := by
                cases p with
                | nil =>
                  simp only [setField] at hx
                  obtain ⟨hfx, hx⟩ := cond_some hx
                  cases hx
                  obtain ⟨k1, k2, k3, k4⟩ := entry_of ok s.blk (s.vle hf) hfx rv
                  exact ⟨v.cells.toList, v, k1, k3, by simpa using k1, k2, rv, k3, k4, by simp [poff], by simp [poff, k1]⟩
                | cons k p =>
                  simp only [setField] at hx
                  cases hl : look vs j with
                  | st t2 u =>
                    cases hfl : xv.flat with
                    | none => rw [hl, hfl] at hx; simp at hx
                    | some y =>
                      rw [hl, hfl] at hx
                      simp only at hx
                      obtain ⟨hc2, hx⟩ := cond_some hx
                      cases hx
                      simp only [nbeq, Bool.and_eq_true, decide_eq_true_eq] at hc2
                      obtain ⟨rfl, hfit⟩ := hc2
                      obtain ⟨vj, csj, q1, q2, q3, q4, q5⟩ := hvs.get hj
                      rw [hl] at q3 q4
                      have hrj := q4 u rfl
                      obtain ⟨cv, m1, m2⟩ := RepA.flat rv hfit hfl
                      have hcv : v.cells.toList = cv := by
                        unfold IsVal at m1
                        split at m1
                        · rw [m1]; simp [Value.cells]
                        · rename_i hne
                          obtain ⟨v2, n1, n2⟩ := m2.one (fun fs' e' => hne fs' e')
                          rw [m1] at n1
                          simp at n1; subst n1
                          rw [n2, m1]
                      have hset := Rep.setp ok (p := k :: p) hok' hrj m2
                      have hcl := m2.length ok
                      have hcj := hrj.length ok
                      obtain ⟨fs3, g1, _, _⟩ := hok'
                      rw [hcv]
                      have hnl := hset.2.length ok
                      refine ⟨splice csj (poff C (nthN fs j) (k :: p)) cv, .agg (splice csj (poff C (nthN fs j) (k :: p)) cv).toArray, ?_, m2.cells1, hnl, ?_, ?_, hset.2.cells1, ?_, ?_, ?_⟩
                      · rw [← hcl, ← hcv]; simp
                      · simp [IsVal, g1]
                      · exact ⟨_, fs3, g1, rfl, hset.2⟩
                      · intro u' hu'
                        simp [AV.flat] at hu'; subst hu'
                        exact hset.2
                      · refine splice_seg _ csj _ _ _ q5 ?_ hset.1
                        have h0 : (nthN fs j ∈ fs) := nthN_mem hj
                        have hsum := hvs.length.2
                        rw [hsum, q2]
                        unfold fieldOff
                        rw [show fs.map C.sz = (fs.take j ++ fs.drop j).map C.sz by rw [List.take_append_drop], List.map_append, List.sum_append, List.drop_eq_getElem_cons hj, List.map_cons, List.sum_cons, nthN_get hj]
                        omega
                      · have := hset.1
                        rw [hcj] at this
                        have : v.cells.size = cv.length := by rw [← hcv]; simp
                        omega
                  | _ => rw [hl] at hx; simp at hx
              obtain ⟨cs, val, k1, k2, k3, k4, k5, k6, k7, k8, k9⟩ := key
              obtain ⟨z1, z2⟩ := hvs.set hj k3 k4 k5 k6 k7
              have hoff : poff C t' (j :: p) = fieldOff C fs j + poff C (nthN fs j) p := by simp [poff, hte', e]
              refine ⟨_, run_storeVar ok hp hg k1 (by rw [hoff]; simp at z2; omega) k2, ?_⟩
              rw [hoff, k8]
              exact store_box hf s hs hi hg (by rw [boxTs_st hte']; exact z1) hte
          | int k => cases p with
            | nil => exact one rfl h
            | cons _ _ => simp at h
          | bool => cases p with
            | nil => exact one rfl h
            | cons _ _ => simp at h
          | str => cases p with
            | nil => exact one rfl h
            | cons _ _ => simp at h
          | sl e => cases p with
            | nil => exact one rfl h
            | cons _ _ => simp at h
          | fn ps r => cases p with
            | nil => exact one rfl h
            | cons _ _ => simp at h
          | ptr e => cases p with
            | nil => exact one rfl h
            | cons _ _ => simp at h
          | map k v b => cases p with
            | nil => exact one rfl h
            | cons _ _ => simp at h
      | _ => simp [hs] at h
  | pe id idx p =>
    simp only at h
    cases hs : st.sto id with
    | none => simp [hs] at h
    | some b =>
      cases b with
      | arr e z xs =>
        cases hfl : xv.flat with
        | none => simp [hs, hfl] at h
        | some y =>
          simp only [hs, hfl] at h
          obtain ⟨hc, h2⟩ := cond_some h
          clear h
          simp only [nbeq, Bool.and_eq_true, decide_eq_true_eq] at hc
          obtain ⟨rfl, hfit⟩ := hc
          cases h2
          have r' : RepPe C ι st.sto id idx p va := ra
          unfold RepPe at r'
          rw [hs] at r'
          obtain ⟨hok, hidx, g, cap, hi, rfl⟩ := r'
          obtain ⟨cs, k1, k2, k3, k4⟩ := (s.blk id).arr hs
          obtain ⟨cv, m1, m2⟩ := RepA.flat rv hfit hfl
          have hcv : v.cells.toList = cv := by
            unfold IsVal at m1
            split at m1
            · rw [m1]; simp [Value.cells]
            · rename_i hne
              obtain ⟨v2, n1, n2⟩ := m2.one (fun fs' e' => hne fs' e')
              rw [m1] at n1
              simp at n1; subst n1
              rw [n2, m1]
          have hr := k2 idx hidx
          have hset := Rep.setp ok hok hr m2
          have hcj := hr.length ok
          have hcl := m2.length ok
          have hclen : cs.length = xs.length * C.sz e := k1.1
          have hlt : idx * C.sz e + C.sz e ≤ xs.length * C.sz e := by
            have : (idx + 1) * C.sz e ≤ xs.length * C.sz e := Nat.mul_le_mul_right _ hidx
            rwa [Nat.add_mul, Nat.one_mul] at this
          rcases k1.2 with ⟨h1, _⟩ | ⟨g', cap', cur, h1, h2, h3, h4, h5, h6, h7⟩
          · rw [hi] at h1; cases h1
          · rw [hi] at h1; cases h1
            have hcs : v.cells.size = C.sz (ptype C e p) := by rw [← hcl, ← hcv]; simp
            have hfitq : idx * C.sz e + poff C e p + v.cells.size ≤ xs.length * C.sz e := by
              have := hset.1
              rw [hcj] at this
              have h9 : v.cells.size = cv.length := by rw [← hcv]; simp
              omega
            have hcap : xs.length * C.sz e ≤ cur.size := Nat.le_trans (Nat.mul_le_mul_right _ h4) h6
            refine ⟨_, run_storeVar ok hp h3 hcs (by omega) (by rw [hcv]; exact m2.cells1), ?_⟩
            have hle := StoLe.arr (ι := ι) (z' := z) (xs' := setUs xs idx ((U.nth xs idx).setp y p)) hs (length_setUs _ _ _)
            refine (s.upd hf hs (live_arr hs) hle ((keep_setRow w g _).weaken (fun b hb => by rw [hi]; simpa [blkOf] using hb.symm)) (fun hl => ?_)).1
            unfold BlkOk
            have : (st.blk id (.arr e z (setUs xs idx ((U.nth xs idx).setp y p)))).sto id = some (.arr e z (setUs xs idx ((U.nth xs idx).setp y p))) := by simp [St.blk, nbeq]
            rw [this]
            have hv9 : v.cells.toList.length = cv.length := by rw [hcv]
            have hqn : poff C e p + v.cells.toList.length ≤ C.sz e := by
              have := hset.1
              rw [hcj] at this
              omega
            have hvl : v.cells.toList.length = v.cells.size := by simp
            refine ⟨splice cs (idx * C.sz e + poff C e p) v.cells.toList, ⟨?_, .inr ⟨g, cap, _, by rw [length_setUs]; exact hi, trivial, setRow_heap w g cur _ e _ h3, by rw [length_setUs]; exact h4, h5, ?_, ?_⟩⟩, ?_, ?_, k4⟩
            · rw [length_setUs, splice_length _ _ _ (by omega)]; exact hclen
            · simp only [List.size_toArray]
              rw [splice_length _ _ _ (by simp only [Array.length_toList]; omega)]
              simpa using h6
            · rw [length_setUs, take_splice _ _ _ _ (by omega) (by simpa using hcap), h7]
            · intro i hii
              rw [length_setUs] at hii
              rw [chunk_splice hqn (by omega), nth_setUs]
              by_cases hie : i = idx
              · rw [if_pos hie, if_pos ⟨hie, hidx⟩]
                have h9 := hset.2.mono hl
                subst hcv
                exact h9
              · rw [if_neg hie, if_neg (fun h => hie h.1)]
                exact (k2 i hii).mono hl
            · rw [k3]
              constructor
              · rintro ⟨a1, a2⟩; rw [a2] at hidx; simp at hidx
              · rintro ⟨a1, a2⟩
                have := length_setUs xs idx ((U.nth xs idx).setp y p)
                rw [a2] at this
                simp at this
                rw [← this] at hidx
                simp at hidx
      | _ => simp [hs] at h
  | _ => simp at h

end Go.Ab
