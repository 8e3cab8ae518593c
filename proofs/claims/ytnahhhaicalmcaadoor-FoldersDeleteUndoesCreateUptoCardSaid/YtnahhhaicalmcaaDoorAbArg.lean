/- Arguments as data. -/
import Derived.Test.YtnahhhaicalmcaaDoorAbPure2
set_option linter.unusedVariables false
set_option linter.unusedSimpArgs false
namespace Go.Ab
open Go.RowKit
variable {C : Ctx} {P : Program}

/-- an own block shows in a view -/
def Shows (ι : Own) (w : World) (V : View) (id : Nat) : Prop := ∀ b o v, blkOf (ι id) = some b → w.cell? ⟨b, o, none⟩ = some v → V b o = some v

def fnOk (C : Ctx) (t : Nat) (ps : List Nat) (r : Nat) : Prop := C.te t = some (.fn ps r)

theorem isVal_inj {t : Nat} {v : Value} {cs cs' : List Value} (h : IsVal C t v cs) (h' : IsVal C t v cs') : cs = cs' := by
  unfold IsVal at h h'
  cases ht : C.te t with
  | none => rw [ht] at h h'; simp only at h h'; rw [h, h']
  | some ty =>
    rw [ht] at h h'
    cases ty <;> simp only at h h' <;> first | (rw [h, h']; done) | skip
    rw [h] at h'
    have : cs.toArray = cs'.toArray := by simpa using h'
    simpa using this
theorem boxTs_st {t : Nat} {fs : List Nat} (h : C.te t = some (.st fs)) : boxTs C t = fs := by simp [boxTs, h]
theorem boxTs_one {t : Nat} (h : ∀ fs, C.te t ≠ some (.st fs)) : boxTs C t = [t] := by
  unfold boxTs
  split
  · rename_i fs h'; exact (h fs h').elim
  · rfl

/-- a value as a datum of a type -/
theorem toU_rep {H V : View} {ι : Own} {st : St} {w : World} (hb : ∀ id, BlkOk C H ι st.sto w id) (hH : H.le V) {x : AV} (hV : ∀ id ∈ ownsOf x, Shows ι w V id) {v : Value} {u : U} {t : Nat}
    (hx : RepA C H ι st.sto x v) (hf : fitsArg C st t x = true) (h : x.toU st = some u) : ∃ cs, IsVal C t v cs ∧ Rep C V t cs u := by
  cases ht : C.te t with
  | none => cases x <;> simp [fitsArg, ht, fitsT] at hf
  | some ty =>
    have one : (∀ fs, ty ≠ .st fs) → IsVal C t v [v] := fun hs => isVal_one (fun fs e => hs fs (by rw [ht] at e; simpa using e))
    cases x with
    | ow id r =>
      cases ty with
      | sl e =>
        obtain ⟨hk, _⟩ := fits_sl ht hf
        obtain ⟨z, xs, hs⟩ := hk
        simp [AV.toU, hs] at h
        subst h
        exact ⟨[v], one (by simp), RepSl.rep ht (ow_repSlV hH (hb id) hs (hV id (by simp [ownsOf])) hx)⟩
      | _ => simp [fitsArg, ht, fitsT] at hf
    | rp e' u' =>
      cases ty with
      | ptr e =>
        simp [fitsArg, ht, nbeq] at hf
        simp [AV.toU, AV.flat] at h
        subst hf; subst h
        obtain ⟨a, cs, h1, h2, h3, h4⟩ := hx
        exact ⟨[v], one (by simp), by rw [h1]; exact .ptr cs ht h2 (h3.mono hH) (h4.mono hH)⟩
      | _ => simp [fitsArg, ht, fitsT] at hf
    | fn t' u' =>
      cases ty with
      | fn ps r =>
        simp only [fitsArg, ht] at hf
        simp [AV.toU, AV.flat] at h
        subst h
        obtain ⟨⟨ps', r', h1⟩, h2⟩ := hx
        rw [h1] at hf
        simp [nbeq] at hf
        obtain ⟨rfl, rfl⟩ := hf
        refine ⟨[v], one (by simp), ?_⟩
        cases h2 with
        | @fn _ ps r _ fi ad cs h hf hp hr ho hu hl ha hc =>
          rw [h1] at h; cases h
          exact .fn ad cs ht hf hp hr ho hu hl (fun j hj => ⟨(ha j hj).1, (ha j hj).2.mono hH⟩) (fun j hj => (hc j hj).mono hH)
        | _ => simp_all
      | _ => simp [fitsArg, ht, fitsT] at hf
    | clo f caps => simp [AV.toU, AV.flat] at h
    | i k n => 
      obtain ⟨cs, h1, h2⟩ := RepA.flat hx (by simpa [fitsArg] using hf) (by simpa [AV.toU] using h)
      exact ⟨cs, h1, h2.mono hH⟩
    | b y => 
      obtain ⟨cs, h1, h2⟩ := RepA.flat hx (by simpa [fitsArg] using hf) (by simpa [AV.toU] using h)
      exact ⟨cs, h1, h2.mono hH⟩
    | s y => 
      obtain ⟨cs, h1, h2⟩ := RepA.flat hx (by simpa [fitsArg] using hf) (by simpa [AV.toU] using h)
      exact ⟨cs, h1, h2.mono hH⟩
    | nl => 
      obtain ⟨cs, h1, h2⟩ := RepA.flat hx (by simpa [fitsArg] using hf) (by simpa [AV.toU] using h)
      exact ⟨cs, h1, h2.mono hH⟩
    | sl e u => 
      obtain ⟨cs, h1, h2⟩ := RepA.flat hx (by simpa [fitsArg] using hf) (by simpa [AV.toU] using h)
      exact ⟨cs, h1, h2.mono hH⟩
    | st t' u => 
      obtain ⟨cs, h1, h2⟩ := RepA.flat hx (by simpa [fitsArg] using hf) (by simpa [AV.toU] using h)
      exact ⟨cs, h1, h2.mono hH⟩
    | _ => simp [fitsArg, ht, fitsT] at hf

theorem At.whole {V : View} {g : Nat} {cur : Array Value} {t : Nat} {fz : Nat × Nat} {w : World} (h : w.heap[g]? = some (.cells cur t fz)) (hV : ∀ o v, w.cell? ⟨g, o, none⟩ = some v → V g o = some v) : At V ⟨g, 0, none⟩ cur.toList := by
  refine ⟨fun _ => rfl, fun j v e => ?_⟩
  apply hV
  rw [cell_block h]
  simpa using e

theorem toUs_rep {H V : View} {ι : Own} {st : St} {w : World} (hb : ∀ id, BlkOk C H ι st.sto w id) (hH : H.le V) :
    ∀ {ts : List Nat} {xs : List AV} {l : List Value} {us : List U}, (∀ id ∈ xs.flatMap ownsOf, Shows ι w V id) → RepVs C H ι st.sto ts xs l → fitsArgs C st ts xs = true → toUs st xs = some us →
    ∃ cs : Nat → List Value, l = (List.range ts.length).flatMap cs ∧ us.length = ts.length ∧ ∀ j, j < ts.length → Rep C V (nthN ts j) (cs j) (U.nth us j)
  | [], [], l, us, _, k, _, h => by
    obtain rfl : l = [] := k
    simp [toUs] at h; subst h
    exact ⟨fun _ => [], by simp, rfl, fun j hj => by simp at hj⟩
  | t :: ts, x :: xs, l, us, hV, k, hf, h => by
    obtain ⟨v, cs, l', h1, h2, h3, h4, h5, h6, h7⟩ := k
    simp only [toUs] at h
    simp only [fitsArgs, Bool.and_eq_true] at hf
    cases hx : x.toU st with
    | none => simp [hx] at h
    | some u =>
      cases hxs : toUs st xs with
      | none => simp [hx, hxs] at h
      | some us' =>
        simp [hx, hxs] at h; subst h
        obtain ⟨cs', e1, e2, e3⟩ := toUs_rep hb hH (fun id hi => hV id (by rw [List.flatMap_cons]; exact List.mem_append_right _ hi)) h7 hf.2 hxs
        obtain ⟨cs2, k1, k2⟩ := toU_rep hb hH (fun id hi => hV id (by rw [List.flatMap_cons]; exact List.mem_append_left _ hi)) h4 hf.1 hx
        have hcs : cs2 = cs := isVal_inj k1 h3 
        subst hcs
        refine ⟨fun j => match j with | 0 => cs2 | j + 1 => cs' j, ?_, by simp [e2], ?_⟩
        · rw [h1, e1, List.length_cons, List.range_succ_eq_map, List.flatMap_cons, List.flatMap_map]
        · intro j hj
          cases j with
          | zero => exact k2
          | succ j => exact e3 j (by simpa using hj)
  | [], _ :: _, _, _, _, k, _, _ => k.elim
  | _ :: _, [], _, _, _, k, _, _ => k.elim

theorem boxU_rep {H V : View} {ι : Own} {st : St} {w : World} (hb : ∀ id, BlkOk C H ι st.sto w id) (hH : H.le V) {t : Nat} {vs : List AV} {l : List Value} {u : U} (hV : ∀ id ∈ vs.flatMap ownsOf, Shows ι w V id)
    (r : RepVs C H ι st.sto (boxTs C t) vs l) (h : boxU C st t vs = some u) : Rep C V t l u := by
  unfold boxU at h
  split at h
  · rename_i fs ht
    rw [boxTs_st ht] at r
    obtain ⟨hc, h⟩ := cond_some h
    simp only [Option.map_eq_some_iff] at h
    obtain ⟨us, hus, rfl⟩ := h
    obtain ⟨cs, e1, e2, e3⟩ := toUs_rep hb hH hV r hc hus
    exact .st cs ht (fun j hj => by rw [get_ofL]; exact e3 j hj) e1
  · rename_i ty hn ht
    rw [boxTs_one (fun fs e => by rw [e] at ht; cases ht; exact hn fs rfl)] at r
    split at h
    · rename_i v
      obtain ⟨hc, h⟩ := cond_some h
      obtain ⟨val, cs, l', h1, h2, h3, h4, h5, h6, h7⟩ := r
      obtain rfl : l' = [] := h7
      obtain ⟨cs2, k1, k2⟩ := toU_rep hb hH (fun id hi => hV id (by simpa using hi)) h4 hc h
      rw [h1, List.append_nil, ← isVal_inj k1 h3]
      exact k2
    · cases h
  · cases h

theorem capIds_none {st : St} : ∀ {caps : List Cap}, caps.any isOwnCap = false → capIds st caps = []
  | [], _ => rfl
  | .ro _ _ :: l, h => by simp only [capIds]; exact capIds_none (by simpa [isOwnCap] using h)
  | .own _ :: _, h => by simp [isOwnCap] at h
theorem argIds_none {st : St} {x : AV} (h : hasOwn x = false) : argIds st x = [] := by
  cases x <;> first | rfl | exact capIds_none h
theorem capUs_rep {H V : View} {ι : Own} {st : St} {w : World} (hb : ∀ id, BlkOk C H ι st.sto w id) (hH : H.le V) : ∀ {caps : List Cap} {vs : List Value} {us : List U} {ts : List Nat}, RepCaps C H ι st.sto caps vs →
    capUs C st caps = some us → capTs st caps = some ts → (∀ id ∈ capIds st caps, Shows ι w V id) →
    vs.length = ts.length ∧ us.length = ts.length ∧ ∀ j, j < ts.length → RepPtr C V (nthN ts j) (U.nth us j) (vs.getD j undef)
  | [], [], us, ts, _, h1, h2, _ => by
    simp [capUs] at h1; simp [capTs] at h2; subst h1; subst h2; simp
  | c :: caps, v :: vs, us, ts, k, h1, h2, h3 => by
    have h3' : ∀ id ∈ capIds st caps, Shows ι w V id := fun id hi => h3 id (by cases c <;> simp only [capIds] <;> first | exact hi | exact List.mem_append_right _ hi)
    simp only [capTs] at h2
    cases hc : capT st c with
    | none => simp [hc] at h2
    | some t =>
      cases hcs : capTs st caps with
      | none => simp [hc, hcs] at h2
      | some ts' =>
        simp [hc, hcs] at h2; subst h2
        have key : ∃ u us', us = u :: us' ∧ capUs C st caps = some us' ∧ RepPtr C V t u v := by
          cases c with
          | ro t' u =>
            simp [capT] at hc; subst hc
            simp only [capUs, Option.map_eq_some_iff] at h1
            obtain ⟨us', h1, rfl⟩ := h1
            exact ⟨u, us', rfl, h1, RepPtr.mono hH k.1⟩
          | own id =>
            simp only [capUs] at h1
            cases hs : st.sto id with
            | none => simp [hs] at h1
            | some b =>
              cases b with
              | box t' xs =>
                simp [capT, hs] at hc; subst hc
                cases hr : capUs C st caps with
                | none => simp [hs, hr] at h1
                | some us' =>
                  simp only [hs, hr, Option.map_eq_some_iff] at h1
                  obtain ⟨u, hu, rfl⟩ := h1
                  refine ⟨u, us', rfl, rfl, ?_⟩
                  obtain ⟨g, cur, e1, e2, e3, e4⟩ := (hb id).box hs
                  have hp : RepPb C ι st.sto id [] v := k.1
                  unfold RepPb at hp
                  rw [hs] at hp
                  obtain ⟨_, g', e5, e6⟩ := hp
                  rw [e1] at e5; cases e5
                  simp only [capIds, hs] at h3
                  exact ⟨⟨g, 0, none⟩, cur.toList, by simpa [poff] using e6, rfl, At.whole e2 (fun o v hv => h3 id (by simp) g o v (by rw [e1]; rfl) hv), boxU_rep hb hH (fun i hi => h3 i (by rw [List.cons_append]; exact List.mem_cons_of_mem _ (List.mem_append_left _ hi))) e4 hu⟩
              | _ => simp [hs] at h1
        obtain ⟨u, us', rfl, hus, hp⟩ := key
        obtain ⟨e1, e2, e3⟩ := capUs_rep hb hH k.2 hus hcs h3'
        refine ⟨by simp [e1], by simp [e2], fun j hj => ?_⟩
        cases j with
        | zero => exact hp
        | succ j => simpa [nthN, U.nth] using e3 j (by simpa using hj)
  | [], _ :: _, _, _, k, _, _, _ => k.elim
  | _ :: _, [], _, _, k, _, _, _ => k.elim

end Go.Ab
