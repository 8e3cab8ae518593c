/- Calls. -/
import Derived.Test.YtegmhhojpngklaaAbFrz
namespace Go.Ab
open Go.RowKit
variable {C : Ctx} {P : Program}

theorem Rep.flat {H H' : View} : ∀ (n : Nat) {t : Nat} {cs : List Value} {u : U}, flatT C n t = true → Rep C H t cs u → Rep C H' t cs u := by
  intro n
  induction n with
  | zero => intro t cs u h; simp [flatT] at h
  | succ n ih =>
    intro t cs u h r
    cases r with
    | int h => exact .int h
    | bool h => exact .bool h
    | str h => exact .str h
    | @st t fs u l cs h' hr hl =>
      simp only [flatT, h'] at h
      exact .st cs h' (fun j hj => ih (List.all_eq_true.1 h _ (nthN_mem hj)) (hr j hj)) hl
    | nil h' => simp [flatT, h'] at h
    | sl cs h' => simp [flatT, h'] at h
    | fn ad cs h' => simp [flatT, h'] at h
    | ptr cs h' => simp [flatT, h'] at h

theorem kills_env : ∀ (l : List Nat) (st : St), (kills st l).env = st.env
  | [], _ => rfl
  | id :: l, st => by rw [kills, kills_env l]; rfl
theorem kills_sto : ∀ (l : List Nat) (st : St) (i : Nat), (kills st l).sto i = if i ∈ l then some .dead else st.sto i
  | [], st, i => by simp [kills]
  | id :: l, st, i => by
    rw [kills, kills_sto l]
    simp only [St.blk, nbeq, List.mem_cons]
    by_cases h1 : i ∈ l
    · simp [h1]
    · by_cases h2 : i = id <;> simp [h1, h2]

theorem freeze1_sto {st st' : St} {id : Nat} (h : freeze1 C st id = some st') : ∃ e z xs, st.sto id = some (.arr e z xs) ∧ st'.sto = frzSto C id e z xs st.sto := by
  unfold freeze1 at h
  cases hs : st.sto id with
  | none => simp [hs] at h
  | some b => cases b with
    | arr e z xs =>
      simp only [hs, Option.some.injEq] at h
      subst h
      exact ⟨e, z, xs, rfl, rfl⟩
    | _ => simp [hs] at h
theorem freezes_sto : ∀ {l : List Nat} {st st' : St}, freezes C st l = some st' → ∀ i, (i ∈ l → st'.sto i = some .dead) ∧ (i ∉ l → ∀ e z xs, st.sto i = some (.arr e z xs) → st'.sto i = some (.arr e z xs)) ∧ (live st'.sto i → live st.sto i) ∧ (st.sto i = some .dead → st'.sto i = some .dead)
  | [], st, st', h, i => by simp [freezes] at h; subst h; simp
  | id :: l, st, st', h, i => by
    simp only [freezes] at h
    have key : ∀ st1, freeze1 C st id = some st1 → freezes C st1 l = some st' → (i ∈ id :: l → st'.sto i = some .dead) ∧ (i ∉ id :: l → ∀ e z xs, st.sto i = some (.arr e z xs) → st'.sto i = some (.arr e z xs)) ∧ (live st'.sto i → live st.sto i) ∧ (st.sto i = some .dead → st'.sto i = some .dead) := by
      intro st1 h1 h2
      obtain ⟨e, z, xs, a1, a2⟩ := freeze1_sto h1
      obtain ⟨b1, b2, b3, b4⟩ := freezes_sto h2 i
      refine ⟨?_, ?_, ?_, ?_⟩
      · intro hi
        by_cases hid : i = id
        · exact b4 (by rw [a2]; simp [frzSto, nbeq, hid])
        · exact b1 (by simpa [hid] using hi)
      · intro hi e' z' xs' hs
        simp only [List.mem_cons, not_or] at hi
        exact b2 hi.2 e' z' xs' (by rw [a2]; simp [frzSto, nbeq, hi.1, hs, frzBlk])
      · intro hl
        have := b3 hl
        rw [a2] at this
        exact (frz_live this).2
      · intro hd
        apply b4
        rw [a2]
        by_cases hid : i = id
        · simp [frzSto, nbeq, hid]
        · simp [frzSto, nbeq, hid, hd, frzBlk]
    cases hs : st.sto id with
    | none => simp [hs, freeze1] at h
    | some b =>
      cases b with
      | dead =>
        simp only [hs] at h
        obtain ⟨b1, b2, b3, b4⟩ := freezes_sto h i
        refine ⟨?_, ?_, b3, b4⟩
        · intro hi
          by_cases hid : i = id
          · exact b4 (by rw [hid]; exact hs)
          · exact b1 (by simpa [hid] using hi)
        · intro hi
          simp only [List.mem_cons, not_or] at hi
          exact b2 hi.2
      | arr e z xs =>
        simp only [hs] at h
        cases h1 : freeze1 C st id with
        | none => simp [h1] at h
        | some st1 => rw [h1] at h; exact key st1 h1 h
      | box t vs => simp [hs, freeze1] at h

/-- the arguments, as the one called finds them -/
theorem argsL_of (ok : CtxOk P C) {f f' : Fr} {ι : Own} {st : St} {a : Act} {w : World} (s : Sim C f ι st a w) (hw : f'.w0 = w) (hH : (view f ι st.sto w).le f'.H) {tm : Nat → Value} :
    ∀ {os : List (Option Bool)} {ts : List Nat} {xs : List AV} {us : List U} {vs : List Value}, fitsArgs C st ts xs = true → ownOk st os xs = true → distinct (selOwns true os xs) = true → argUs C st xs = some us →
      (∀ id ∈ selOwns false os xs, live st.sto id → Shows ι w f'.H id) → (∀ id ∈ selOwns true os xs, live st.sto id → ∀ b, blkOf (ι id) = some b → f'.O b) → (∀ id ∈ xs.flatMap (argIds st), Shows ι w f'.H id) →
      (xs.length = vs.length ∧ ∀ (i : Nat) (x : AV) (v : Value), xs[i]? = some x → vs[i]? = some v → RepS C (view f ι st.sto w) ι st.sto tm x v) →
      ArgsL C f' os ts us vs ∧ (∀ v ∈ ownVs os vs, ∀ b, blkOf v = some b → ∃ id ∈ selOwns true os xs, live st.sto id ∧ blkOf (ι id) = some b)
  | os, [], [], us, vs, hf, _, _, hu, _, _, _, hr => by
    simp [argUs] at hu; subst hu
    obtain rfl : vs = [] := List.eq_nil_of_length_eq_zero (by simpa using hr.1.symm)
    exact ⟨trivial, by simp [ownVs]⟩
  | os, t :: ts, x :: xs, us, [], hf, _, _, hu, _, _, _, hr => by simp at hr
  | os, t :: ts, x :: xs, us, v :: vs, hf, ho, hd, hu, hs, hO, hc, hr => by
    simp only [fitsArgs, Bool.and_eq_true] at hf
    simp only [ownOk, Bool.and_eq_true] at ho
    simp only [argUs] at hu
    simp only [selOwns] at hd hs hO ⊢
    cases h1 : argU C st x with
    | none => simp [h1] at hu
    | some u =>
      cases h2 : argUs C st xs with
      | none => simp [h1, h2] at hu
      | some us' =>
        simp [h1, h2] at hu; subst hu
        obtain ⟨hd1, hd2, hd3⟩ := distinct_append hd
        rw [List.flatMap_cons] at hc
        have hc' : ∀ id ∈ xs.flatMap (argIds st), Shows ι w f'.H id := fun id hi => hc id (List.mem_append_right _ hi)
        have hcx : ∀ id ∈ argIds st x, Shows ι w f'.H id := fun id hi => hc id (List.mem_append_left _ hi)
        obtain ⟨k1, k2⟩ := argsL_of ok s hw hH hf.2 ho.2 hd2 h2 (fun id hi => hs id (List.mem_append_right _ hi)) (fun id hi => hO id (List.mem_append_right _ hi)) hc' (vs := vs)
          ⟨by simpa using hr.1, fun i x v e1 e2 => hr.2 (i + 1) x v (by simpa using e1) (by simpa using e2)⟩
        have hx := hr.2 0 x v rfl rfl
        have hcv : isCv x = false := by
          cases x <;> first | rfl | (simp [argU, AV.toU, AV.flat] at h1)
        have hx := ev_not_cv hx hcv
        cases hos : hd0 os with
        | none =>
          refine ⟨⟨?_, k1⟩, ?_⟩
          · rw [hos]
            exact argU_rep s.blk hH (fun id hi => hs id (List.mem_append_left _ (by simp [hos, hi])) (argU_live h1 hi)) hcx hx hf.1 h1
          · intro v' hv' b hb
            simp only [ownVs, hos, List.nil_append] at hv'
            obtain ⟨id, i1, i2⟩ := k2 v' hv' b hb
            exact ⟨id, List.mem_append_right _ i1, i2⟩
        | some z =>
          have hoo := ho.1
          rw [hos] at hoo
          have hres : ∃ e, C.te t = some (.sl e) ∧ OwnIn C f'.H f'.w0 e u.isNil u.toL v ∧ (u.isNil = true → u.len = 0) ∧ ∀ b, blkOf v = some b → ∃ id, ownsOf x = [id] ∧ live st.sto id ∧ blkOf (ι id) = some b := by
            cases x with
            | ow id r =>
              cases r with
              | some p => simp at hoo
              | none =>
                cases hst : st.sto id with
                | none => simp [hst] at hoo
                | some b =>
                  cases b with
                  | arr e z' ys =>
                    have hfx := hf.1
                    cases hte : C.te t with
                    | none => simp [fitsArg, hte, fitsT] at hfx
                    | some ty =>
                      cases ty with
                      | sl e' =>
                        simp [fitsArg, hte, eltOf, hst, nbeq] at hfx
                        subst hfx
                        simp [argU, AV.toU, hst] at h1
                        subst h1
                        have hv : v = ι id := by
                          have : RepOw C ι st.sto id none v := hx
                          unfold RepOw at this
                          rw [hst] at this
                          exact this
                        subst hv
                        obtain ⟨cs, a1, a2, a3, a4⟩ := (s.blk id).arr hst
                        refine ⟨e', rfl, ⟨cs, ?_, ?_, ?_, a4⟩, owU_nil z' ys none, fun b hb => ⟨id, rfl, live_arr hst, hb⟩⟩
                        · rw [toL_owU, hw]; exact a1
                        · rw [toL_owU]; exact fun i hi => (a2 i hi).mono hH
                        · rw [toL_owU]
                          show _ ↔ (z' && ys.isEmpty) = true ∧ _
                          rw [a3]
                          cases ys <;> simp
                      | _ => simp [fitsArg, hte, fitsT] at hfx
                  | _ => simp [hst] at hoo
            | nl =>
              have hfx := hf.1
              cases hte : C.te t with
              | none => simp [fitsArg, hte, fitsT] at hfx
              | some ty =>
                cases ty with
                | sl e =>
                  have hv : v = .slice none 0 0 := hx
                  subst hv
                  simp [argU, AV.toU, AV.flat] at h1
                  subst h1
                  obtain ⟨ty, q1, _⟩ := ok.elem t e hte
                  have h0 : U.nil.toL = [] := rfl
                  refine ⟨e, rfl, ?_, fun _ => rfl, fun b hb => by simp [blkOf] at hb⟩
                  rw [h0]
                  exact ⟨[], ⟨by simp, .inl ⟨rfl, rfl⟩⟩, fun i hi => by simp at hi, by simp [U.nil, U.isNil], ⟨ty, q1⟩⟩
                | _ => simp [fitsArg, hte, fitsT] at hfx
            | _ => simp at hoo
          obtain ⟨e, e1, e2, e4, e3⟩ := hres
          have hown : ∀ b, blkOf v = some b → ∃ id ∈ (bif (hd0 os).isSome == true then ownsOf x else []), live st.sto id ∧ blkOf (ι id) = some b := by
            intro b hb
            obtain ⟨id, i1, i2, i3⟩ := e3 b hb
            exact ⟨id, by simp [hos, i1], i2, i3⟩
          refine ⟨⟨?_, k1⟩, ?_⟩
          · rw [hos]
            refine ⟨e, e1, e2, e4, fun b hb => ?_⟩
            obtain ⟨id, i1, i2, i3⟩ := hown b hb
            refine ⟨hO id (List.mem_append_left _ i1) i2 b i3, fun v' hv' e' => ?_⟩
            obtain ⟨id', j1, j2, j3⟩ := k2 v' hv' b e'
            exact hd3 id i1 (s.inj id id' b i2 j2 i3 j3 ▸ j1)
          · intro v' hv' b hb
            simp only [ownVs, hos, List.singleton_append, List.mem_cons] at hv'
            rcases hv' with rfl | hv'
            · obtain ⟨id, i1, i2⟩ := hown b hb
              rw [hos] at i1
              exact ⟨id, List.mem_append_left _ i1, i2⟩
            · obtain ⟨id, i1, i2⟩ := k2 v' hv' b hb
              exact ⟨id, List.mem_append_right _ i1, i2⟩
  | os, [], _ :: _, us, vs, hf, _, _, hu, _, _, _, hr => by simp [fitsArgs] at hf
  | os, _ :: _, [], us, vs, hf, _, _, hu, _, _, _, hr => by simp [fitsArgs] at hf

end Go.Ab
