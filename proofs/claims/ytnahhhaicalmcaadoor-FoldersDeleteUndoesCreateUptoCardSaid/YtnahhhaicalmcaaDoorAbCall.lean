/- Calls. -/
import Derived.Test.YtnahhhaicalmcaaDoorAbFrz
set_option linter.unusedVariables false
set_option linter.unusedSimpArgs false
section
namespace Go.Ab
open Go.RowKit
variable {C : Ctx} {P : Program}

theorem Rep.flat {H H' : View} : ∀ (n : Nat) {t : Nat} {cs : List Value} {u : U}, flatT C n t = true → Rep C H t cs u → Rep C H' t cs u := by
  intro n
  induction n with
  | zero => intro t cs u h; simp [flatT] at h
  | succ n ih =>
    intro t cs u h r
    cases r with
    | int h => exact .int h
    | bool h => exact .bool h
    | str h => exact .str h
    | @st t fs u l cs h' hr hl =>
      simp only [flatT, h'] at h
      exact .st cs h' (fun j hj => ih (List.all_eq_true.1 h _ (nthN_mem hj)) (hr j hj)) hl
    | nil h' => simp [flatT, h'] at h
    | sl cs h' => simp [flatT, h'] at h
    | fn ad cs h' => simp [flatT, h'] at h
    | ptr cs h' => simp [flatT, h'] at h

theorem kills_env : ∀ (l : List Nat) (st : St), (kills st l).env = st.env
  | [], _ => rfl
  | id :: l, st => by rw [kills, kills_env l]; rfl
theorem kills_sto : ∀ (l : List Nat) (st : St) (i : Nat), (kills st l).sto i = if i ∈ l then some .dead else st.sto i
  | [], st, i => by simp [kills]
  | id :: l, st, i => by
    rw [kills, kills_sto l]
    simp only [St.blk, nbeq, List.mem_cons]
    by_cases h1 : i ∈ l
    · simp [h1]
    · by_cases h2 : i = id <;> simp [h1, h2]

theorem freeze1_sto {st st' : St} {id : Nat} (h : freeze1 C st id = some st') : ∃ e z xs, st.sto id = some (.arr e z xs) ∧ st'.sto = frzSto C id e z xs st.sto := by
  unfold freeze1 at h
  cases hs : st.sto id with
  | none => simp [hs] at h
  | some b => cases b with
    | arr e z xs =>
      simp only [hs, Option.some.injEq] at h
      subst h
      exact ⟨e, z, xs, rfl, rfl⟩
    | _ => simp [hs] at h
theorem freezes_sto : ∀ {l : List Nat} {st st' : St}, freezes C st l = some st' → ∀ i, (i ∈ l → st'.sto i = some .dead) ∧ (i ∉ l → ∀ e z xs, st.sto i = some (.arr e z xs) → st'.sto i = some (.arr e z xs)) ∧ (live st'.sto i → live st.sto i) ∧ (st.sto i = some .dead → st'.sto i = some .dead)
  | [], st, st', h, i => by simp [freezes] at h; subst h; simp
  | id :: l, st, st', h, i => by
    simp only [freezes] at h
    have key : ∀ st1, freeze1 C st id = some st1 → freezes C st1 l = some st' → (i ∈ id :: l → st'.sto i = some .dead) ∧ (i ∉ id :: l → ∀ e z xs, st.sto i = some (.arr e z xs) → st'.sto i = some (.arr e z xs)) ∧ (live st'.sto i → live st.sto i) ∧ (st.sto i = some .dead → st'.sto i = some .dead) := by
      intro st1 h1 h2
      obtain ⟨e, z, xs, a1, a2⟩ := freeze1_sto h1
      obtain ⟨b1, b2, b3, b4⟩ := freezes_sto h2 i
      refine ⟨?_, ?_, ?_, ?_⟩
      · intro hi
        by_cases hid : i = id
        · exact b4 (by rw [a2]; simp [frzSto, nbeq, hid])
        · exact b1 (by simpa [hid] using hi)
      · intro hi e' z' xs' hs
        simp only [List.mem_cons, not_or] at hi
        exact b2 hi.2 e' z' xs' (by rw [a2]; simp [frzSto, nbeq, hi.1, hs, frzBlk])
      · intro hl
        have := b3 hl
        rw [a2] at this
        exact (frz_live this).2
      · intro hd
        apply b4
        rw [a2]
        by_cases hid : i = id
        · simp [frzSto, nbeq, hid]
        · simp [frzSto, nbeq, hid, hd, frzBlk]
    cases hs : st.sto id with
    | none => simp [hs, freeze1] at h
    | some b =>
      cases b with
      | dead =>
        simp only [hs] at h
        obtain ⟨b1, b2, b3, b4⟩ := freezes_sto h i
        refine ⟨?_, ?_, b3, b4⟩
        · intro hi
          by_cases hid : i = id
          · exact b4 (by rw [hid]; exact hs)
          · exact b1 (by simpa [hid] using hi)
        · intro hi
          simp only [List.mem_cons, not_or] at hi
          exact b2 hi.2
      | arr e z xs =>
        simp only [hs] at h
        cases h1 : freeze1 C st id with
        | none => simp [h1] at h
        | some st1 => rw [h1] at h; exact key st1 h1 h
      | box t vs => simp [hs, freeze1] at h
      | mp t us => simp [hs, freeze1] at h

/-- the arguments, as the one called finds them -/
theorem argsL_of (ok : CtxOk P C) {f f' : Fr} {ι : Own} {st : St} {a : Act} {w : World} (s : Sim C f ι st a w) (hw : f'.w0 = w) (hH : (view f ι st.sto w).le f'.H) {tm : Nat → Value} :
    ∀ {os : List (Option Bool)} {ts : List Nat} {xs : List AV} {us : List U} {vs : List Value}, fitsArgs C st ts xs = true → ownOk st os xs = true → distinct (selOwns true os xs) = true → argUs C st xs = some us →
      (∀ id ∈ selOwns false os xs, live st.sto id → Shows ι w f'.H id) → (∀ id ∈ selOwns true os xs, live st.sto id → ∀ b, blkOf (ι id) = some b → f'.O b) → (∀ id ∈ xs.flatMap (argIds st), Shows ι w f'.H id) →
      (xs.length = vs.length ∧ ∀ (i : Nat) (x : AV) (v : Value), xs[i]? = some x → vs[i]? = some v → RepS C (view f ι st.sto w) ι st.sto tm x v) →
      ArgsL C f' os ts us vs ∧ (∀ v ∈ ownVs os vs, ∀ b, blkOf v = some b → ∃ id ∈ selOwns true os xs, live st.sto id ∧ blkOf (ι id) = some b)
  | os, [], [], us, vs, hf, _, _, hu, _, _, _, hr => by
    simp [argUs] at hu; subst hu
    obtain rfl : vs = [] := List.eq_nil_of_length_eq_zero (by simpa using hr.1.symm)
    exact ⟨trivial, by simp [ownVs]⟩
  | os, t :: ts, x :: xs, us, [], hf, _, _, hu, _, _, _, hr => by simp at hr
  | os, t :: ts, x :: xs, us, v :: vs, hf, ho, hd, hu, hs, hO, hc, hr => by
    simp only [fitsArgs, Bool.and_eq_true] at hf
    simp only [ownOk, Bool.and_eq_true] at ho
    simp only [argUs] at hu
    simp only [selOwns] at hd hs hO ⊢
    cases h1 : argU C st x with
    | none => simp [h1] at hu
    | some u =>
      cases h2 : argUs C st xs with
      | none => simp [h1, h2] at hu
      | some us' =>
        simp [h1, h2] at hu; subst hu
        obtain ⟨hd1, hd2, hd3⟩ := distinct_append hd
        rw [List.flatMap_cons] at hc
        have hc' : ∀ id ∈ xs.flatMap (argIds st), Shows ι w f'.H id := fun id hi => hc id (List.mem_append_right _ hi)
        have hcx : ∀ id ∈ argIds st x, Shows ι w f'.H id := fun id hi => hc id (List.mem_append_left _ hi)
        obtain ⟨k1, k2⟩ := argsL_of ok s hw hH hf.2 ho.2 hd2 h2 (fun id hi => hs id (List.mem_append_right _ hi)) (fun id hi => hO id (List.mem_append_right _ hi)) hc' (vs := vs)
          ⟨by simpa using hr.1, fun i x v e1 e2 => hr.2 (i + 1) x v (by simpa using e1) (by simpa using e2)⟩
        have hx := hr.2 0 x v rfl rfl
        have hcv : isCv x = false := by
          cases x <;> first | rfl | (simp [argU, AV.toU, AV.flat] at h1)
        have hx := ev_not_cv hx hcv
        cases hos : hd0 os with
        | none =>
          refine ⟨⟨?_, k1⟩, ?_⟩
          · rw [hos]
            exact argU_rep s.blk hH (fun id hi => hs id (List.mem_append_left _ (by simp [hos, hi])) (argU_live h1 hi)) hcx hx hf.1 h1
          · intro v' hv' b hb
            simp only [ownVs, hos, List.nil_append] at hv'
            obtain ⟨id, i1, i2⟩ := k2 v' hv' b hb
            exact ⟨id, List.mem_append_right _ i1, i2⟩
        | some z =>
          have hoo := ho.1
          rw [hos] at hoo
          have hres : ∃ e, C.te t = some (.sl e) ∧ OwnIn C f'.H f'.w0 e u.isNil u.toL v ∧ (u.isNil = true → u.len = 0) ∧ ∀ b, blkOf v = some b → ∃ id, ownsOf x = [id] ∧ live st.sto id ∧ blkOf (ι id) = some b := by
            cases x with
            | ow id r =>
              cases r with
              | some p => simp at hoo
              | none =>
                cases hst : st.sto id with
                | none => simp [hst] at hoo
                | some b =>
                  cases b with
                  | arr e z' ys =>
                    have hfx := hf.1
                    cases hte : C.te t with
                    | none => simp [fitsArg, hte, fitsT] at hfx
                    | some ty =>
                      cases ty with
                      | sl e' =>
                        simp [fitsArg, hte, eltOf, hst, nbeq] at hfx
                        subst hfx
                        simp [argU, AV.toU, hst] at h1
                        subst h1
                        have hv : v = ι id := by
                          have : RepOw C ι st.sto id none v := hx
                          unfold RepOw at this
                          rw [hst] at this
                          exact this
                        subst hv
                        obtain ⟨cs, a1, a2, a3, a4⟩ := (s.blk id).arr hst
                        refine ⟨e', rfl, ⟨cs, ?_, ?_, ?_, a4⟩, owU_nil z' ys none, fun b hb => ⟨id, rfl, live_arr hst, hb⟩⟩
                        · rw [toL_owU, hw]; exact a1
                        · rw [toL_owU]; exact fun i hi => (a2 i hi).mono hH
                        · rw [toL_owU]
                          show _ ↔ (z' && ys.isEmpty) = true ∧ _
                          rw [a3]
                          cases ys <;> simp
                      | _ => simp [fitsArg, hte, fitsT] at hfx
                  | _ => simp [hst] at hoo
            | nl =>
              have hfx := hf.1
              cases hte : C.te t with
              | none => simp [fitsArg, hte, fitsT] at hfx
              | some ty =>
                cases ty with
                | sl e =>
                  have hv : v = .slice none 0 0 := hx
                  subst hv
                  simp [argU, AV.toU, AV.flat] at h1
                  subst h1
                  obtain ⟨ty, q1, _⟩ := ok.elem t e hte
                  have h0 : U.nil.toL = [] := rfl
                  refine ⟨e, rfl, ?_, fun _ => rfl, fun b hb => by simp [blkOf] at hb⟩
                  rw [h0]
                  exact ⟨[], ⟨by simp, .inl ⟨rfl, rfl⟩⟩, fun i hi => by simp at hi, by simp [U.nil, U.isNil], ⟨ty, q1⟩⟩
                | _ => simp [fitsArg, hte, fitsT] at hfx
            | _ => simp at hoo
          obtain ⟨e, e1, e2, e4, e3⟩ := hres
          have hown : ∀ b, blkOf v = some b → ∃ id ∈ (bif (hd0 os).isSome == true then ownsOf x else []), live st.sto id ∧ blkOf (ι id) = some b := by
            intro b hb
            obtain ⟨id, i1, i2, i3⟩ := e3 b hb
            exact ⟨id, by simp [hos, i1], i2, i3⟩
          refine ⟨⟨?_, k1⟩, ?_⟩
          · rw [hos]
            refine ⟨e, e1, e2, e4, fun b hb => ?_⟩
            obtain ⟨id, i1, i2, i3⟩ := hown b hb
            refine ⟨hO id (List.mem_append_left _ i1) i2 b i3, fun v' hv' e' => ?_⟩
            obtain ⟨id', j1, j2, j3⟩ := k2 v' hv' b e'
            exact hd3 id i1 (s.inj id id' b i2 j2 i3 j3 ▸ j1)
          · intro v' hv' b hb
            simp only [ownVs, hos, List.singleton_append, List.mem_cons] at hv'
            rcases hv' with rfl | hv'
            · obtain ⟨id, i1, i2⟩ := hown b hb
              rw [hos] at i1
              exact ⟨id, List.mem_append_left _ i1, i2⟩
            · obtain ⟨id, i1, i2⟩ := k2 v' hv' b hb
              exact ⟨id, List.mem_append_right _ i1, i2⟩
  | os, [], _ :: _, us, vs, hf, _, _, hu, _, _, _, hr => by simp [fitsArgs] at hf
  | os, _ :: _, [], us, vs, hf, _, _, hu, _, _, _, hr => by simp [fitsArgs] at hf

end Go.Ab
end
section
namespace Go.Ab
open Go.RowKit
variable {C : Ctx} {P : Program}

theorem OwnIn.flat {H H' : View} {w : World} {e : Nat} {z : Bool} {xs : List U} {v : Value} (h : flatT C 20 e = true) (k : OwnIn C H w e z xs v) : OwnIn C H' w e z xs v := by
  obtain ⟨cs, h1, h2, h3, h4⟩ := k
  exact ⟨cs, h1, fun i hi => (h2 i hi).flat 20 h, h3, h4⟩
theorem OwnIn.mono {H H' : View} (hH : H.le H') {w : World} {e : Nat} {z : Bool} {xs : List U} {v : Value} (k : OwnIn C H w e z xs v) : OwnIn C H' w e z xs v := by
  obtain ⟨cs, h1, h2, h3, h4⟩ := k
  exact ⟨cs, h1, fun i hi => (h2 i hi).mono hH, h3, h4⟩

def noV : View := fun _ _ => none
theorem noV_le (H : View) : noV.le H := fun _ _ _ h => by cases h
theorem RetL.flat {f : Fr} {w : World} {V : View} {X : Nat → Prop} : ∀ {os : List (Option Bool)} {ts : List Nat} {g : Nat → U} {j : Nat} {vs : List Value}, aliasL C os ts = false → RetL C f w V X os ts g j vs → RetL C f w noV X os ts g j vs
  | os, [], g, j, [], _, _ => trivial
  | os, t :: ts, g, j, v :: vs, h, k => by
    simp only [aliasL, Bool.or_eq_false_iff] at h
    refine ⟨?_, RetL.flat h.2 k.2⟩
    have k1 := k.1
    have h1 := h.1
    cases ho : hd0 os with
    | none =>
      rw [ho] at k1 h1
      simp at h1
      obtain ⟨cs, a1, a2⟩ := k1
      exact ⟨cs, a1, a2.flat 20 h1⟩
    | some z =>
      rw [ho] at k1 h1
      obtain ⟨e, a1, a2, a4, a3⟩ := k1
      rw [elt_of a1] at h1
      simp at h1
      exact ⟨e, a1, a2.flat h1, a4, a3⟩
  | os, [], g, j, _ :: _, _, k => k.elim
  | os, _ :: _, g, j, [], _, k => k.elim

theorem rows_of_own {w : World} {e size n : Nat} {v : Value} {cs : List Value} {b : Nat} (h : w.owns e size v n cs) (hb : blkOf v = some b) : b < w.heap.size := by
  rcases h.2 with ⟨h2, _⟩ | ⟨g, cap, cur, h2, _, h3, _⟩
  · simp [h2, blkOf] at hb
  · simp [h2, blkOf] at hb; subst hb; exact (Array.getElem?_eq_some_iff.1 h3).1

/-- own slices that have come back are laid -/
structure LayOk (C : Ctx) (f : Fr) (w : World) (V : View) (X : Nat → Prop) (N : List Value) (ι : Own) (st : St) (ι' : Own) (st' : St) : Prop where
  env : st'.env = st.env
  ids : ∀ id, (st'.sto id = st.sto id ∧ ι' id = ι id) ∨ (st.sto id = none ∧ ∃ e z xs, st'.sto id = some (.arr e z xs) ∧ OwnIn C V w e z xs (ι' id) ∧ ι' id ∈ N ∧ ∀ b, blkOf (ι' id) = some b → X b ∧ (f.w0.heap.size ≤ b ∨ f.O b))
  inj : ∀ id id' b, id ≠ id' → st.sto id = none → st.sto id' = none → live st'.sto id → live st'.sto id' → blkOf (ι' id) = some b → blkOf (ι' id') = some b → False
section
variable {f : Fr} {w : World} {V : View} {X : Nat → Prop} {N : List Value} {ι ι1 : Own} {st st1 : St}
theorem LayOk.refl : LayOk C f w V X N ι st ι st :=
  ⟨rfl, fun id => .inl ⟨rfl, rfl⟩, fun id id' b _ h _ l => by simp [live, h] at l⟩
theorem LayOk.weaken {N' : List Value} (h : LayOk C f w V X N ι st ι1 st1) (hN : ∀ v ∈ N, v ∈ N') : LayOk C f w V X N' ι st ι1 st1 :=
  ⟨h.env, fun id => (h.ids id).imp (fun x => x) fun ⟨a, e, z, xs, b, c, d, k⟩ => ⟨a, e, z, xs, b, c, hN _ d, k⟩, h.inj⟩
theorem LayOk.none_of (h : LayOk C f w V X N ι st ι1 st1) {d : Nat} (hd : st1.sto d = none) : st.sto d = none := by
  rcases h.ids d with ⟨h1, _⟩ | ⟨h1, _⟩
  · rw [← h1]; exact hd
  · exact h1
theorem LayOk.add (h : LayOk C f w V X N ι st ι1 st1) {d e : Nat} {z : Bool} {xs : List U} {v : Value} (hd : st1.sto d = none) (hv : OwnIn C V w e z xs v)
    (hb : ∀ b, blkOf v = some b → X b ∧ (f.w0.heap.size ≤ b ∨ f.O b) ∧ ∀ v' ∈ N, blkOf v' ≠ some b) : LayOk C f w V X (v :: N) ι st (setO ι1 d v) (st1.blk d (.arr e z xs)) := by
  have hne : ∀ id, id ≠ d → (st1.blk d (.arr e z xs)).sto id = st1.sto id ∧ setO ι1 d v id = ι1 id := fun id h => by simp [St.blk, nbeq, h, setO]
  have heq : (st1.blk d (.arr e z xs)).sto d = some (.arr e z xs) ∧ setO ι1 d v d = v := by simp [St.blk, nbeq, setO]
  have hmem : ∀ id, id ≠ d → st.sto id = none → live (st1.blk d (.arr e z xs)).sto id → ι1 id ∈ N := by
    intro id h1 h2 h3
    unfold live at h3
    rw [(hne id h1).1] at h3
    rcases h.ids id with ⟨h4, _⟩ | ⟨_, _, _, _, _, _, h5, _⟩
    · rw [h4, h2] at h3; exact h3.elim
    · exact h5
  refine ⟨h.env, fun id => ?_, fun id id' b hi h1 h2 l1 l2 b1 b2 => ?_⟩
  · by_cases hid : id = d
    · subst hid
      rw [heq.1, heq.2]
      exact .inr ⟨h.none_of hd, e, z, xs, rfl, hv, by simp, fun b hb' => ⟨(hb b hb').1, (hb b hb').2.1⟩⟩
    · rw [(hne id hid).1, (hne id hid).2]
      exact (h.ids id).imp (fun x => x) fun ⟨a, e, z, xs, b, c, d, k⟩ => ⟨a, e, z, xs, b, c, List.mem_cons_of_mem _ d, k⟩
  · by_cases c1 : id = d
    · subst c1
      have c2 : id' ≠ id := fun e => hi e.symm
      rw [heq.2] at b1
      rw [(hne id' c2).2] at b2
      exact (hb b b1).2.2 _ (hmem id' c2 h2 l2) b2
    · by_cases c2 : id' = d
      · subst c2
        rw [heq.2] at b2
        rw [(hne id c1).2] at b1
        exact (hb b b2).2.2 _ (hmem id c1 h1 l1) b1
      · rw [(hne id c1).2] at b1
        rw [(hne id' c2).2] at b2
        refine h.inj id id' b hi h1 h2 ?_ ?_ b1 b2
        · unfold live at l1 ⊢; rwa [(hne id c1).1] at l1
        · unfold live at l2 ⊢; rwa [(hne id' c2).1] at l2

theorem layR_sound {r : U} {d : Nat} : ∀ {os : List (Option Bool)} {ts : List Nat} {vs : List Value} {j : Nat} {st' : St} {l : List (Nat × Option Nat)}, RetL C f w V X os ts r.get j vs → layR C st r d os ts j = some (st', l) →
    ∃ ι', LayOk C f w V X (ownVs os vs) ι st ι' st' ∧ ∀ V', V.le V' → RepTup C V' ι' st'.sto r l vs j
  | os, [], [], j, st', l, _, h => by
    simp [layR] at h
    obtain ⟨rfl, rfl⟩ := h
    exact ⟨ι, .refl, fun _ _ => trivial⟩
  | os, t :: ts, v :: vs, j, st', l, k, h => by
    simp only [layR] at h
    cases h1 : layR C st r d os.tail ts (j + 1) with
    | none => simp [h1] at h
    | some p =>
      obtain ⟨st1, l1⟩ := p
      obtain ⟨ι1, a1, a2⟩ := layR_sound k.2 h1
      have k1 := k.1
      simp only [h1] at h
      cases ho : hd0 os with
      | none =>
        simp only [ho, Option.some.injEq, Prod.mk.injEq] at h
        obtain ⟨rfl, rfl⟩ := h
        rw [ho] at k1
        obtain ⟨cs, e1, e2⟩ := k1
        refine ⟨ι1, a1.weaken (fun v hv => by simp [ownVs, ho, hv]), fun V' hV => ⟨⟨cs, e1, e2.mono hV⟩, a2 V' hV⟩⟩
      | some z =>
        rw [ho] at k1
        obtain ⟨e, e1, e2, _, e3⟩ := k1
        simp only [ho, elt_of e1] at h
        cases hs : st1.sto (1000 * (j + 1) + d) with
        | some b => simp [hs] at h
        | none =>
          simp only [hs, Option.some.injEq, Prod.mk.injEq] at h
          obtain ⟨rfl, rfl⟩ := h
          refine ⟨setO ι1 (1000 * (j + 1) + d) v, (a1.add hs e2 (fun b hb => e3 b hb)).weaken (fun v' hv => by simpa [ownVs, ho] using hv), fun V' hV => ⟨?_, ?_⟩⟩
          · show RepOw _ _ _ _ _ _
            unfold RepOw
            simp [St.blk, nbeq, setO]
          · refine (a2 V' hV).mono (View.le.refl _) ?_
            intro id
            by_cases hid : id = 1000 * (j + 1) + d
            · subst hid; rw [hs]; trivial
            · have q1 : (st1.blk (1000 * (j + 1) + d) (.arr e (r.get j).isNil (r.get j).toL)).sto id = st1.sto id := by simp [St.blk, nbeq, hid]
              have q2 : setO ι1 (1000 * (j + 1) + d) v id = ι1 id := by simp [setO, hid]
              rw [q1, q2]
              cases st1.sto id with
              | none => trivial
              | some b => cases b with
                | dead => rfl
                | arr e' z' xs' => exact .inr ⟨rfl, _, _, rfl, rfl⟩
                | box t vs => exact .inr ⟨rfl, _, rfl⟩
                | mp t us => exact .inr ⟨rfl, _, rfl⟩
  | os, [], _ :: _, j, st', l, k, h => k.elim
  | os, _ :: _, [], j, st', l, k, h => k.elim
end

/-- after a call: the memory that was handed over is gone, what came back is laid -/
theorem call_step {f : Fr} (hf : FrOk f) {ι ι' : Own} {st st' : St} {a : Act} {w w' : World} (s : Sim C f ι st a w) {own : List Nat} {V : View} {X : Nat → Prop} {N : List Value} {f' : Fr}
    (hw : f'.w0 = w) (hO : ∀ b, f'.O b ↔ ∃ id ∈ own, live st.sto id ∧ blkOf (ι id) = some b) (hk : Keep f'.O w w') (hl : LayOk C f' w' V X N ι (kills st own) ι' st')
    (hV : (V = noV) ∨ (V.le (retV f' w' X) ∧ f'.H.le (view f ι st.sto w))) :
    Sim C f ι' st' a w' ∧ V.le (view f ι' st'.sto w') := by
  subst hw
  have hkeep : ∀ id b, live st.sto id → blkOf (ι id) = some b → b < f'.w0.heap.size := fun id b h1 h2 => (s.blk id).lt h1 h2
  have hks : ∀ id, (kills st own).sto id = if id ∈ own then some .dead else st.sto id := fun id => kills_sto own st id
  have hold : ∀ id, live st'.sto id → (id ∉ own ∧ live st.sto id ∧ st'.sto id = st.sto id ∧ ι' id = ι id) ∨ ((kills st own).sto id = none ∧ ∃ e z xs, st'.sto id = some (.arr e z xs) ∧ OwnIn C V w' e z xs (ι' id) ∧ ∀ b, blkOf (ι' id) = some b → X b ∧ (f'.w0.heap.size ≤ b ∨ f'.O b)) := by
    intro id hlv
    rcases hl.ids id with ⟨h1, h2⟩ | ⟨h1, e, z, xs, h2, h3, _, h4⟩
    · rw [hks] at h1
      by_cases hi : id ∈ own
      · rw [if_pos hi] at h1; simp [live, h1] at hlv
      · rw [if_neg hi] at h1
        exact .inl ⟨hi, by unfold live at hlv ⊢; rwa [h1] at hlv, h1, h2⟩
    · exact .inr ⟨h1, e, z, xs, h2, h3, h4⟩
  have hnO : ∀ id b, id ∉ own → live st.sto id → blkOf (ι id) = some b → ¬ f'.O b := by
    intro id b h1 h2 h3 h4
    obtain ⟨id', a1, a2, a3⟩ := (hO b).1 h4
    exact h1 (s.inj id id' b h2 a2 h3 a3 ▸ a1)
  have hVle : V.le (view f ι' st'.sto w') := by
    rcases hV with rfl | ⟨hV, hH⟩
    · exact noV_le _
    · intro b o x hx
      have hx := hV b o x hx
      unfold retV at hx
      split at hx
      · cases hx
      · rename_i hX
        have hno : ¬ ∃ id, live st'.sto id ∧ blkOf (ι' id) = some b := by
          rintro ⟨id, h1, h2⟩
          rcases hold id h1 with ⟨h3, h4, _, h5⟩ | ⟨_, _, _, _, _, _, h3⟩
          · rw [h5] at h2
            rw [if_pos ⟨hkeep id b h4 h2, hnO id b h3 h4 h2⟩] at hx
            have := hH _ _ _ hx
            unfold view at this
            rw [if_pos ⟨id, h4, h2⟩] at this
            cases this
          · exact hX (h3 b h2).1
        unfold view
        rw [if_neg hno]
        by_cases c1 : b < f'.w0.heap.size ∧ ¬ f'.O b
        · rw [if_pos c1] at hx
          have hx := hH _ _ _ hx
          unfold view at hx
          split at hx
          · cases hx
          · split at hx
            · rename_i c2; rw [if_pos c2]; exact hx
            · rename_i c2
              rw [if_neg c2, World.cell?_of_block (w := f'.w0) (hk.block b c1.1 c1.2)]
              exact hx
        · rw [if_neg c1] at hx
          rw [if_neg]
          · exact hx
          · rintro ⟨c2, c3⟩
            have hlt := Nat.lt_of_lt_of_le c2 s.keep.size
            by_cases c4 : f'.O b
            · obtain ⟨id, a1, a2, a3⟩ := (hO b).1 c4
              rcases s.rng id b a2 a3 with h | h
              · omega
              · exact c3 h
            · exact c1 ⟨hlt, c4⟩
  have hnone : ∀ id, (kills st own).sto id = none → id ∉ own ∧ st.sto id = none := by
    intro id h
    rw [hks] at h
    by_cases hi : id ∈ own
    · rw [if_pos hi] at h; cases h
    · rw [if_neg hi] at h; exact ⟨hi, h⟩
  have hle : StoLe ι st.sto ι' st'.sto := by
    intro id
    rcases hl.ids id with ⟨h1, h2⟩ | ⟨h1, _⟩
    · rw [hks] at h1
      by_cases hi : id ∈ own
      · rw [if_pos hi] at h1
        rw [h1]
        cases st.sto id with
        | none => trivial
        | some b => cases b <;> simp
      · rw [if_neg hi] at h1
        rw [h1, h2]
        exact StoLe.refl ι st.sto id
    · rw [(hnone id h1).2]; trivial
  obtain ⟨s', hv⟩ := Sim.step hf s hle (w' := w')
    (fun id b h1 h2 h3 => by
      rcases hold id h1 with ⟨_, h4, _, h5⟩ | ⟨_, _, _, _, _, _, h4⟩
      · exact ⟨id, h4, h5 ▸ h2⟩
      · rcases (h4 b h2).2 with h5 | h5
        · omega
        · obtain ⟨id', _, a2, a3⟩ := (hO b).1 h5
          exact ⟨id', a2, a3⟩)
    (fun b h1 h2 => hk.block b h1 (fun h => by
      obtain ⟨id', _, a2, a3⟩ := (hO b).1 h
      exact h2 id' a2 a3))
    ⟨hk.os, hk.tape, hk.output, hk.size, hk.drawn, fun k _ h => absurd trivial h⟩
    (fun id h1 => by
      rcases hold id h1 with ⟨h2, h3, h4, h5⟩ | ⟨_, e, z, xs, h2, ⟨cs, b1, b2, b3, b4⟩, _⟩
      · exact .inl ⟨h4, h5, fun b hb => hk.block b (hkeep id b h3 hb) (hnO id b h2 h3 hb)⟩
      · refine .inr fun _ => ?_
        unfold BlkOk
        rw [h2]
        exact ⟨cs, b1, fun i hi => (b2 i hi).mono hVle, b3, b4⟩)
    (fun id id' b h1 h2 e1 e2 => by
      rcases hold id h1 with ⟨a1, a2, _, a3⟩ | ⟨a1, _, _, _, _, _, a3⟩
      · rw [a3] at e1
        rcases hold id' h2 with ⟨c1, c2, _, c3⟩ | ⟨c1, _, _, _, _, _, c3⟩
        · rw [c3] at e2; exact s.inj id id' b a2 c2 e1 e2
        · have := hkeep id b a2 e1
          rcases (c3 b e2).2 with h | h
          · omega
          · exact (hnO id b a1 a2 e1 h).elim
      · rcases hold id' h2 with ⟨c1, c2, _, c3⟩ | ⟨c1, _, _, _, _, _, c3⟩
        · rw [c3] at e2
          have := hkeep id' b c2 e2
          rcases (a3 b e1).2 with h | h
          · omega
          · exact (hnO id' b c1 c2 e2 h).elim
        · rcases Nat.decEq id id' with h | h
          · exact (hl.inj id id' b h a1 c1 h1 h2 e1 e2).elim
          · exact h)
    (fun id b h1 h2 => by
      rcases hold id h1 with ⟨_, a2, _, a3⟩ | ⟨_, _, _, _, _, _, a3⟩
      · exact s.rng id b a2 (a3 ▸ h2)
      · rcases (a3 b h2).2 with h | h
        · exact .inl (Nat.le_trans s.keep.size h)
        · obtain ⟨id', _, c2, c3⟩ := (hO b).1 h
          exact s.rng id' b c2 c3)
  have e : st' = { st with sto := st'.sto } := by
    have := hl.env
    rw [kills_env] at this
    cases st'
    simp only at this
    rw [this]
  rw [← e] at s'
  exact ⟨s', hVle⟩

end Go.Ab
end
