/- Calls of functions that are known by their number. -/
import Derived.Test.YtegmhhojpngklaaAbCall2
namespace Go.Ab
open Go.RowKit
variable {C : Ctx} {P : Program}

theorem Does.mono {g : Nat} {vs : List Value} {w : World} {R R' : Value → World → Prop} (h : Does P g vs w R) (hr : ∀ v w', R v w' → R' v w') : Does P g vs w R' := by
  rcases h with ⟨h1, h2⟩ | ⟨v, w', h1, h2⟩
  · refine .inl ⟨h1, h2.mono fun e w' he => ?_⟩
    cases e with
    | returned v => exact hr _ _ he
    | _ => exact he
  · exact .inr ⟨v, w', h1, hr _ _ h2⟩

theorem own_arr {st : St} : ∀ {os : List (Option Bool)} {xs : List AV}, ownOk st os xs = true → ∀ id ∈ selOwns true os xs, ∃ e z ys, st.sto id = some (.arr e z ys)
  | os, [], _, id, hi => by simp [selOwns] at hi
  | os, x :: xs, h, id, hi => by
    simp only [ownOk, Bool.and_eq_true] at h
    simp only [selOwns, List.mem_append] at hi
    rcases hi with hi | hi
    · cases ho : hd0 os with
      | none => simp [ho] at hi
      | some z =>
        have h1 := h.1
        rw [ho] at h1 hi
        simp at hi
        cases x with
        | ow id' r =>
          simp [ownsOf] at hi; subst hi
          cases r with
          | some p => simp at h1
          | none =>
            cases hs : st.sto id with
            | none => simp [hs] at h1
            | some b => cases b with
              | arr e z' ys => exact ⟨e, z', ys, rfl⟩
              | _ => simp [hs] at h1
        | pe _ _ _ => simp at h1
        | _ => simp [ownsOf] at hi
    · exact own_arr h.2 id hi
theorem selOwns_none : ∀ {os : List (Option Bool)} {xs : List AV}, os.all Option.isNone = true → selOwns true os xs = []
  | os, [], _ => rfl
  | [], x :: xs, h => by simp [selOwns, hd0, selOwns_none (os := []) (xs := xs) rfl]
  | o :: os, x :: xs, h => by
    simp at h
    simp [selOwns, hd0, h.1, selOwns_none (os := os) (xs := xs) (by simpa using h.2)]
theorem capsL_of {V : View} : ∀ {ts : List Nat} {us : List U} {vs : List Value}, vs.length = ts.length → us.length = ts.length → (∀ j, j < ts.length → RepPtr C V (nthN ts j) (U.nth us j) (vs.getD j undef)) → CapsL C V ts us vs
  | [], [], [], _, _, _ => trivial
  | t :: ts, u :: us, v :: vs, h1, h2, h => ⟨by simpa [nthN, U.nth] using h 0 (by simp), capsL_of (by simpa using h1) (by simpa using h2) (fun j hj => by simpa [nthN, U.nth] using h (j + 1) (by simpa using hj))⟩
  | [], _ :: _, _, _, h2, _ => by simp at h2
  | [], [], _ :: _, h1, _, _ => by simp at h1
  | _ :: _, [], _, _, h2, _ => by simp at h2
  | _ :: _, _ :: _, [], h1, _, _ => by simp at h1

open Classical in
theorem callF_sound (ok : CtxOk P C) {f : Fr} (hf : FrOk f) {ι : Own} {st st' : St} {a : Act} {w : World} (s : Sim C f ι st a w) {F : Nat → List U → Option U} (hF : ∀ g us r, F g us = some r → Spec P C g us r)
    {dr : Bool} {g : Nat} {caps : List Cap} {as : List AV} {d : Option Nat} {r : U} {x : Option U} {k : U → Option St} (h : callF C F dr st g caps as d = some (x, k)) (hx : x = some r) (hk : k r = some st') {tm : Nat → Value} {vs cvs : List Value}
    (hvs : as.length = vs.length ∧ ∀ (i : Nat) (x : AV) (v : Value), as[i]? = some x → vs[i]? = some v → RepS C (view f ι st.sto w) ι st.sto tm x v) (hcv : RepCaps C (view f ι st.sto w) ι st.sto caps cvs) :
    Does P g (vs ++ cvs) w fun v w' => ∃ ι', Sim C f ι' st' (a.put d v) w' := by
  unfold callF at h
  cases hfi : C.fn g with
  | none => simp [hfi] at h
  | some fi =>
    simp only [hfi] at h
    obtain ⟨hc, h⟩ := cond_some h
    simp only [Bool.and_eq_true] at hc
    obtain ⟨⟨⟨⟨⟨⟨c1, c2⟩, c3⟩, c4⟩, c5⟩, c6⟩, c7⟩ := hc
    have c4' : ∀ id ∈ selOwns false fi.own as, id ∉ selOwns true fi.own as := by
      intro id h1 h2
      have := List.all_eq_true.1 c4 id h1
      simp only [Bool.not_eq_true', List.any_eq_false, nbeq, decide_eq_true_eq] at this
      exact this id h2 rfl
    cases hts : capTs st caps with
    | none => simp [hts] at c7
    | some ts =>
      rw [hts] at c7
      simp only [beq_iff_eq] at c7
      subst c7
      -- the state once what is lent has become a datum
      obtain ⟨st1, hst1, us, hus, cs, hcs, hxk⟩ : ∃ st1, (bif aliasF C fi then freezes C st (selOwns false fi.own as) else some st) = some st1 ∧ ∃ us, argUs C st as = some us ∧ ∃ cs, capUs C st caps = some cs ∧
          x = F g (us ++ cs) ∧ k = fun r => retOf C (kills st1 (selOwns true fi.own as)) fi d r := by
        revert h
        cases (bif aliasF C fi then freezes C st (selOwns false fi.own as) else some st) with
        | none => simp
        | some st1 =>
          cases argUs C st as with
          | none => simp
          | some us =>
            cases capUs C st caps with
            | none => simp
            | some cs =>
              simp only [Option.some.injEq, Prod.mk.injEq]
              rintro ⟨rfl, rfl⟩
              exact ⟨st1, rfl, us, rfl, cs, rfl, rfl, rfl⟩
      obtain ⟨rfl, rfl⟩ := hxk
      have hS : Sim C f ι st1 a w ∧ (view f ι st.sto w).le (view f ι st1.sto w) := by
        cases ha : aliasF C fi with
        | true => rw [ha] at hst1; obtain ⟨a1, a2, _⟩ := freezes_sound ok hf s hst1; exact ⟨a1, a2⟩
        | false => rw [ha] at hst1; simp at hst1; subst hst1; exact ⟨s, View.le.refl _⟩
      obtain ⟨s1, hle1⟩ := hS
      have hl1 : ∀ id, live st1.sto id → live st.sto id := by
        intro id
        cases ha : aliasF C fi with
        | true => rw [ha] at hst1; exact (freezes_sto hst1 id).2.2.1
        | false => rw [ha] at hst1; simp at hst1; subst hst1; exact fun h => h
      have hown1 : ∀ id ∈ selOwns true fi.own as, live st.sto id ∧ live st1.sto id := by
        intro id hi
        obtain ⟨e, z, ys, hs⟩ := own_arr c2 id hi
        refine ⟨live_arr hs, ?_⟩
        cases ha : aliasF C fi with
        | true =>
          rw [ha] at hst1
          exact live_arr ((freezes_sto hst1 id).2.1 (fun h => c4' id h hi) e z ys hs)
        | false => rw [ha] at hst1; simp at hst1; subst hst1; exact live_arr hs
      let O' : Nat → Prop := fun b => ∃ id ∈ selOwns true fi.own as, live st1.sto id ∧ blkOf (ι id) = some b
      let B : View := bif aliasF C fi then view f ι st1.sto w else World.view w
      have hB1 : (view f ι st.sto w).le B := by
        show View.le _ (bif aliasF C fi then _ else _)
        cases aliasF C fi with
        | true => exact hle1
        | false => exact s.vle hf
      have hB2 : B.le (World.view w) := by
        show View.le (bif aliasF C fi then _ else _) _
        cases aliasF C fi with
        | true => exact s1.vle hf
        | false => exact View.le.refl _
      let f' : Fr := ⟨fun b o => if O' b then none else B b o, w, O'⟩
      have hf' : FrOk f' := by
        refine ⟨?_, ?_, ?_⟩
        · intro b o v e
          have e : (if O' b then none else B b o) = some v := e
          split at e
          · cases e
          · exact hB2 _ _ _ e
        · intro b o hb; exact if_pos hb
        · rintro b ⟨id, _, h2, h3⟩
          exact (s1.blk id).lt h2 h3
      have hH : (view f ι st.sto w).le f'.H := by
        intro b o v e
        show (if O' b then none else B b o) = some v
        rw [if_neg]
        · exact hB1 _ _ _ e
        · rintro ⟨id, h1, h2, h3⟩
          unfold view at e
          rw [if_pos ⟨id, hl1 id h2, h3⟩] at e
          cases e
      have hshow : ∀ id ∈ selOwns false fi.own as, live st.sto id → Shows ι w f'.H id := by
        intro id hi hl b o v hb hv
        show (if O' b then none else B b o) = some v
        rw [if_neg]
        · show (bif aliasF C fi then view f ι st1.sto w else World.view w) b o = some v
          cases ha : aliasF C fi with
          | false => exact hv
          | true =>
            rw [ha] at hst1
            simp only [cond_true]
            unfold view
            rw [if_neg, if_neg]
            · exact hv
            · rintro ⟨h1, h2⟩
              rcases s.rng id b hl hb with h | h
              · omega
              · exact h2 h
            · rintro ⟨id', h1, h2⟩
              have := s.inj id' id b (hl1 id' h1) hl h2 hb
              subst this
              have := (freezes_sto hst1 id').1 hi
              simp [live, this] at h1
        · rintro ⟨id', h1, h2, h3⟩
          have := s.inj id' id b (hl1 id' h2) hl h3 hb
          subst this
          exact c4' id' hi h1
      have hcapc : ∀ id ∈ capIds st caps ++ as.flatMap (argIds st), Shows ι w f'.H id := by
        cases ha : aliasF C fi with
        | true =>
          rw [ha] at c6
          simp only [Bool.true_and, Bool.not_eq_true', Bool.and_eq_true, Bool.or_eq_false_iff] at c6
          have e1 := capIds_none (st := st) c6.1.1
          have e2 : as.flatMap (argIds st) = [] := by
            rw [List.flatMap_eq_nil_iff]
            intro x hx
            refine argIds_none ?_
            have := List.any_eq_false.1 c6.1.2 x hx
            simpa using this
          rw [e1, e2]
          intro id hi; cases hi
        | false =>
          intro id hi b o v hb hv
          show (if O' b then none else B b o) = some v
          rw [if_neg]
          · show (bif aliasF C fi then view f ι st1.sto w else World.view w) b o = some v
            rw [ha]; exact hv
          · rintro ⟨id', h1, h2, h3⟩
            have c62 := c6.2
            rw [Bool.or_eq_true] at c62
            rcases c62 with c62 | c62
            · rw [List.isEmpty_iff] at c62; rw [c62] at h1; cases h1
            · have := List.all_eq_true.1 c62 id hi
              rw [Bool.and_eq_true] at this
              obtain ⟨hl, hn⟩ := this
              have hlv : live st.sto id := by
                unfold liveB at hl
                unfold live
                cases hs : st.sto id with
                | none => rw [hs] at hl; cases hl
                | some x => cases x <;> rw [hs] at hl <;> first | trivial | cases hl
              have := s.inj id' id b (hown1 id' h1).1 hlv h3 hb
              subst this
              simp only [Bool.not_eq_true', List.any_eq_false, nbeq, decide_eq_true_eq] at hn
              exact hn _ h1 rfl
      obtain ⟨hargs, _⟩ := argsL_of ok (f' := f') s rfl hH c1 c2 c3 hus hshow (fun id hi _ b hb => ⟨id, hi, (hown1 id hi).2, hb⟩) (fun id hi => hcapc id (List.mem_append_right _ hi)) hvs
      obtain ⟨q1, q2, q3⟩ := capUs_rep s.blk hH hcv hcs hts (fun id hi => hcapc id (List.mem_append_left _ hi))
      obtain ⟨fi', hfi', hspec⟩ := hF g _ r hx
      rw [hfi] at hfi'
      cases hfi'
      refine (hspec f' (vs ++ cvs) hf' ⟨us, cs, vs, cvs, rfl, rfl, hargs, capsL_of q1 q2 q3⟩).mono ?_
      rintro v w' ⟨hkp, X, rvs, hret, rfl⟩
      -- the view of what comes back
      obtain ⟨V, hret, hV⟩ : ∃ V, RetL C f' w' V X fi.out fi.rts (resG fi.rts r) 0 rvs ∧ (V = noV ∨ (V.le (retV f' w' X) ∧ f'.H.le (view f ι st1.sto w))) := by
        cases ha : aliasF C fi with
        | false => exact ⟨noV, hret.flat ha, .inl rfl⟩
        | true =>
          refine ⟨_, hret, .inr ⟨View.le.refl _, fun b o v e => ?_⟩⟩
          have e : (if O' b then none else (bif aliasF C fi then view f ι st1.sto w else World.view w) b o) = some v := e
          rw [ha] at e
          split at e
          · cases e
          · exact e
      have fin : ∀ {N : List Value} {ι' : Own} {st2 : St}, LayOk C f' w' V X N ι (kills st1 (selOwns true fi.own as)) ι' st2 → Sim C f ι' st2 a w' ∧ V.le (view f ι' st2.sto w') :=
        fun hl => call_step hf s1 rfl (fun b => Iff.rfl) hkp hl hV
      simp only [retOf] at hk
      revert hk hret
      match hrts : fi.rts, d with
      | [], d =>
        intro hk _
        simp at hk; subst hk
        obtain ⟨z1, _⟩ := fin (N := []) .refl
        exact ⟨ι, z1.put d (fun _ _ _ => trivial)⟩
      | [t], some d =>
        intro hk hret
        match rvs, hret with
        | [v], hret =>
          have hr1 := hret.1
          cases ho : hd0 fi.out with
          | none =>
            rw [ho] at hr1 hk
            simp only [Option.some.injEq] at hk
            subst hk
            obtain ⟨z1, z2⟩ := fin (N := []) .refl
            obtain ⟨cs', e1, e2⟩ := hr1
            exact ⟨ι, z1.put (some d) (fun _ _ _ => .of ((e2.mono z2).ofU e1))⟩
          | some z =>
            rw [ho] at hr1 hk
            obtain ⟨e, e1, e2, _, e3⟩ := hr1
            simp only [elt_of e1] at hk
            cases hs : (kills st1 (selOwns true fi.own as)).sto d with
            | some b => simp [hs] at hk
            | none =>
              simp only [hs, Option.some.injEq] at hk
              subst hk
              have e2' : OwnIn C V w' e r.isNil r.toL v := e2
              have hl := (LayOk.refl (C := C) (f := f') (w := w') (V := V) (X := X) (N := []) (ι := ι) (st := kills st1 (selOwns true fi.own as))).add hs e2' (fun b hb => ⟨(e3 b hb).1, (e3 b hb).2.1, by simp⟩)
              obtain ⟨z1, z2⟩ := fin hl
              refine ⟨_, z1.put (some d) (fun _ _ _ => .of ?_)⟩
              simp [RepA, RepOw, St.blk, nbeq, setO, tupV]
        | [], hret => exact hret.elim
        | _ :: _ :: _, hret => exact hret.2.elim
      | t :: t' :: ts, some d =>
        intro hk hret
        simp only [Option.map_eq_some_iff] at hk
        obtain ⟨p, hp, rfl⟩ := hk
        have hret' : RetL C f' w' V X fi.out (t :: t' :: ts) r.get 0 rvs := hret
        obtain ⟨ι', hl, htup⟩ := layR_sound (ι := ι) hret' (st' := p.1) (l := p.2) hp
        obtain ⟨z1, z2⟩ := fin hl
        refine ⟨ι', z1.put (some d) (fun _ _ _ => .of ?_)⟩
        match rvs, hret with
        | v :: v' :: rvs, hret => exact ⟨_, rfl, htup _ z2⟩
        | [v], hret => exact hret.2.elim
        | [], hret => exact hret.elim
      | [t], none =>
        intro hk _
        simp at hk; subst hk
        obtain ⟨z1, _⟩ := fin (N := []) .refl
        exact ⟨ι, z1⟩
      | t :: t' :: ts, none =>
        intro hk _
        simp at hk; subst hk
        obtain ⟨z1, _⟩ := fin (N := []) .refl
        exact ⟨ι, z1⟩

end Go.Ab
