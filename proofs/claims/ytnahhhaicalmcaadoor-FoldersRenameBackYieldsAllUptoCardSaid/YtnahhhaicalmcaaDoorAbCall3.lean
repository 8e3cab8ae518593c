/- Calls of functions that are known by their number. -/
import Derived.Test.YtnahhhaicalmcaaDoorAbCall
set_option linter.unusedVariables false
set_option linter.unusedSimpArgs false
section
namespace Go.Ab
open Go.RowKit
variable {C : Ctx} {P : Program}

theorem Does.mono {g : Nat} {vs : List Value} {w : World} {R R' : Value → World → Prop} (h : Does P g vs w R) (hr : ∀ v w', R v w' → R' v w') : Does P g vs w R' := by
  rcases h with ⟨h1, h2⟩ | ⟨v, w', h1, h2⟩
  · refine .inl ⟨h1, h2.mono fun e w' he => ?_⟩
    cases e with
    | returned v => exact hr _ _ he
    | _ => exact he
  · exact .inr ⟨v, w', h1, hr _ _ h2⟩

theorem own_arr {st : St} : ∀ {os : List (Option Bool)} {xs : List AV}, ownOk st os xs = true → ∀ id ∈ selOwns true os xs, ∃ e z ys, st.sto id = some (.arr e z ys)
  | os, [], _, id, hi => by simp [selOwns] at hi
  | os, x :: xs, h, id, hi => by
    simp only [ownOk, Bool.and_eq_true] at h
    simp only [selOwns, List.mem_append] at hi
    rcases hi with hi | hi
    · cases ho : hd0 os with
      | none => simp [ho] at hi
      | some z =>
        have h1 := h.1
        rw [ho] at h1 hi
        simp at hi
        cases x with
        | ow id' r =>
          simp [ownsOf] at hi; subst hi
          cases r with
          | some p => simp at h1
          | none =>
            cases hs : st.sto id with
            | none => simp [hs] at h1
            | some b => cases b with
              | arr e z' ys => exact ⟨e, z', ys, rfl⟩
              | _ => simp [hs] at h1
        | pe _ _ _ => simp at h1
        | _ => simp [ownsOf] at hi
    · exact own_arr h.2 id hi
theorem selOwns_none : ∀ {os : List (Option Bool)} {xs : List AV}, os.all Option.isNone = true → selOwns true os xs = []
  | os, [], _ => rfl
  | [], x :: xs, h => by simp [selOwns, hd0, selOwns_none (os := []) (xs := xs) rfl]
  | o :: os, x :: xs, h => by
    simp at h
    simp [selOwns, hd0, h.1, selOwns_none (os := os) (xs := xs) (by simpa using h.2)]
theorem capsL_of {V : View} : ∀ {ts : List Nat} {us : List U} {vs : List Value}, vs.length = ts.length → us.length = ts.length → (∀ j, j < ts.length → RepPtr C V (nthN ts j) (U.nth us j) (vs.getD j undef)) → CapsL C V ts us vs
  | [], [], [], _, _, _ => trivial
  | t :: ts, u :: us, v :: vs, h1, h2, h => ⟨by simpa [nthN, U.nth] using h 0 (by simp), capsL_of (by simpa using h1) (by simpa using h2) (fun j hj => by simpa [nthN, U.nth] using h (j + 1) (by simpa using hj))⟩
  | [], _ :: _, _, _, h2, _ => by simp at h2
  | [], [], _ :: _, h1, _, _ => by simp at h1
  | _ :: _, [], _, _, h2, _ => by simp at h2
  | _ :: _, _ :: _, [], h1, _, _ => by simp at h1

open Classical in
theorem callF_sound (ok : CtxOk P C) {f : Fr} (hf : FrOk f) {ι : Own} {st st' : St} {a : Act} {w : World} (s : Sim C f ι st a w) {F : Nat → List U → Option U} (hF : ∀ g us r, F g us = some r → Spec P C g us r)
    {dr : Bool} {g : Nat} {caps : List Cap} {as : List AV} {d : Option Nat} {r : U} {x : Option U} {k : U → Option St} (h : callF C F dr st g caps as d = some (x, k)) (hx : x = some r) (hk : k r = some st') {tm : Nat → Value} {vs cvs : List Value}
    (hvs : as.length = vs.length ∧ ∀ (i : Nat) (x : AV) (v : Value), as[i]? = some x → vs[i]? = some v → RepS C (view f ι st.sto w) ι st.sto tm x v) (hcv : RepCaps C (view f ι st.sto w) ι st.sto caps cvs) :
    Does P g (vs ++ cvs) w fun v w' => ∃ ι', Sim C f ι' st' (a.put d v) w' := by
  unfold callF at h
  cases hfi : C.fn g with
  | none => simp [hfi] at h
  | some fi =>
    simp only [hfi] at h
    obtain ⟨hc, h⟩ := cond_some h
    simp only [Bool.and_eq_true] at hc
    obtain ⟨⟨⟨⟨⟨⟨c1, c2⟩, c3⟩, c4⟩, c5⟩, c6⟩, c7⟩ := hc
    have c4' : ∀ id ∈ selOwns false fi.own as, id ∉ selOwns true fi.own as := by
      intro id h1 h2
      have := List.all_eq_true.1 c4 id h1
      simp only [Bool.not_eq_true', List.any_eq_false, nbeq, decide_eq_true_eq] at this
      exact this id h2 rfl
    cases hts : capTs st caps with
    | none => simp [hts] at c7
    | some ts =>
      rw [hts] at c7
      simp only [beq_iff_eq] at c7
      subst c7
      -- the state once what is lent has become a datum
      obtain ⟨st1, hst1, us, hus, cs, hcs, hxk⟩ : ∃ st1, (bif aliasF C fi then freezes C st (selOwns false fi.own as) else some st) = some st1 ∧ ∃ us, argUs C st as = some us ∧ ∃ cs, capUs C st caps = some cs ∧
          x = F g (us ++ cs) ∧ k = fun r => retOf C (kills st1 (selOwns true fi.own as)) fi d r := by
        revert h
        cases (bif aliasF C fi then freezes C st (selOwns false fi.own as) else some st) with
        | none => simp
        | some st1 =>
          cases argUs C st as with
          | none => simp
          | some us =>
            cases capUs C st caps with
            | none => simp
            | some cs =>
              simp only [Option.some.injEq, Prod.mk.injEq]
              rintro ⟨rfl, rfl⟩
              exact ⟨st1, rfl, us, rfl, cs, rfl, rfl, rfl⟩
      obtain ⟨rfl, rfl⟩ := hxk
      have hS : Sim C f ι st1 a w ∧ (view f ι st.sto w).le (view f ι st1.sto w) := by
        cases ha : aliasF C fi with
        | true => rw [ha] at hst1; obtain ⟨a1, a2, _⟩ := freezes_sound ok hf s hst1; exact ⟨a1, a2⟩
        | false => rw [ha] at hst1; simp at hst1; subst hst1; exact ⟨s, View.le.refl _⟩
      obtain ⟨s1, hle1⟩ := hS
      have hl1 : ∀ id, live st1.sto id → live st.sto id := by
        intro id
        cases ha : aliasF C fi with
        | true => rw [ha] at hst1; exact (freezes_sto hst1 id).2.2.1
        | false => rw [ha] at hst1; simp at hst1; subst hst1; exact fun h => h
      have hown1 : ∀ id ∈ selOwns true fi.own as, live st.sto id ∧ live st1.sto id := by
        intro id hi
        obtain ⟨e, z, ys, hs⟩ := own_arr c2 id hi
        refine ⟨live_arr hs, ?_⟩
        cases ha : aliasF C fi with
        | true =>
          rw [ha] at hst1
          exact live_arr ((freezes_sto hst1 id).2.1 (fun h => c4' id h hi) e z ys hs)
        | false => rw [ha] at hst1; simp at hst1; subst hst1; exact live_arr hs
      let O' : Nat → Prop := fun b => ∃ id ∈ selOwns true fi.own as, live st1.sto id ∧ blkOf (ι id) = some b
      let B : View := bif aliasF C fi then view f ι st1.sto w else World.view w
      have hB1 : (view f ι st.sto w).le B := by
        show View.le _ (bif aliasF C fi then _ else _)
        cases aliasF C fi with
        | true => exact hle1
        | false => exact s.vle hf
      have hB2 : B.le (World.view w) := by
        show View.le (bif aliasF C fi then _ else _) _
        cases aliasF C fi with
        | true => exact s1.vle hf
        | false => exact View.le.refl _
      let f' : Fr := ⟨fun b o => if O' b then none else B b o, w, O', fun _ _ => False⟩
      have hf' : FrOk f' := by
        refine ⟨?_, ?_, ?_, fun _ _ h => h.elim⟩
        · intro b o v e
          have e : (if O' b then none else B b o) = some v := e
          split at e
          · cases e
          · exact hB2 _ _ _ e
        · intro b o hb; exact if_pos hb
        · rintro b ⟨id, _, h2, h3⟩
          exact (s1.blk id).lt h2 h3
      have hH : (view f ι st.sto w).le f'.H := by
        intro b o v e
        show (if O' b then none else B b o) = some v
        rw [if_neg]
        · exact hB1 _ _ _ e
        · rintro ⟨id, h1, h2, h3⟩
          unfold view at e
          rw [if_pos ⟨id, hl1 id h2, h3⟩] at e
          cases e
      have hshow : ∀ id ∈ selOwns false fi.own as, live st.sto id → Shows ι w f'.H id := by
        intro id hi hl b o v hb hv
        show (if O' b then none else B b o) = some v
        rw [if_neg]
        · show (bif aliasF C fi then view f ι st1.sto w else World.view w) b o = some v
          cases ha : aliasF C fi with
          | false => exact hv
          | true =>
            rw [ha] at hst1
            simp only [cond_true]
            unfold view
            rw [if_neg, if_neg]
            · exact hv
            · rintro ⟨h1, h2⟩
              rcases s.rng id b hl hb with h | h
              · omega
              · exact h2 h
            · rintro ⟨id', h1, h2⟩
              have := s.inj id' id b (hl1 id' h1) hl h2 hb
              subst this
              have := (freezes_sto hst1 id').1 hi
              simp [live, this] at h1
        · rintro ⟨id', h1, h2, h3⟩
          have := s.inj id' id b (hl1 id' h2) hl h3 hb
          subst this
          exact c4' id' hi h1
      have hcapc : ∀ id ∈ capIds st caps ++ as.flatMap (argIds st), Shows ι w f'.H id := by
        cases ha : aliasF C fi with
        | true =>
          rw [ha] at c6
          simp only [Bool.true_and, Bool.not_eq_true', Bool.and_eq_true, Bool.or_eq_false_iff] at c6
          have e1 := capIds_none (st := st) c6.1.1
          have e2 : as.flatMap (argIds st) = [] := by
            rw [List.flatMap_eq_nil_iff]
            intro x hx
            refine argIds_none ?_
            have := List.any_eq_false.1 c6.1.2 x hx
            simpa using this
          rw [e1, e2]
          intro id hi; cases hi
        | false =>
          intro id hi b o v hb hv
          show (if O' b then none else B b o) = some v
          rw [if_neg]
          · show (bif aliasF C fi then view f ι st1.sto w else World.view w) b o = some v
            rw [ha]; exact hv
          · rintro ⟨id', h1, h2, h3⟩
            have c62 := c6.2
            rw [Bool.or_eq_true] at c62
            rcases c62 with c62 | c62
            · rw [List.isEmpty_iff] at c62; rw [c62] at h1; cases h1
            · have := List.all_eq_true.1 c62 id hi
              rw [Bool.and_eq_true] at this
              obtain ⟨hl, hn⟩ := this
              have hlv : live st.sto id := by
                unfold liveB at hl
                unfold live
                cases hs : st.sto id with
                | none => rw [hs] at hl; cases hl
                | some x => cases x <;> rw [hs] at hl <;> first | trivial | cases hl
              have := s.inj id' id b (hown1 id' h1).1 hlv h3 hb
              subst this
              simp only [Bool.not_eq_true', List.any_eq_false, nbeq, decide_eq_true_eq] at hn
              exact hn _ h1 rfl
      obtain ⟨hargs, _⟩ := argsL_of ok (f' := f') s rfl hH c1 c2 c3 hus hshow (fun id hi _ b hb => ⟨id, hi, (hown1 id hi).2, hb⟩) (fun id hi => hcapc id (List.mem_append_right _ hi)) hvs
      obtain ⟨q1, q2, q3⟩ := capUs_rep s.blk hH hcv hcs hts (fun id hi => hcapc id (List.mem_append_left _ hi))
      have hspec := Spec.old (hF g _ r hx) hfi
      refine (hspec f' (vs ++ cvs) hf' (fun _ _ h => h) ⟨us, cs, vs, cvs, rfl, rfl, hargs, capsL_of q1 q2 q3⟩).mono ?_
      rintro v w' ⟨hkp, X, rvs, hret, rfl⟩
      -- the view of what comes back
      obtain ⟨V, hret, hV⟩ : ∃ V, RetL C f' w' V X fi.out fi.rts (resG fi.rts r) 0 rvs ∧ (V = noV ∨ (V.le (retV f' w' X) ∧ f'.H.le (view f ι st1.sto w))) := by
        cases ha : aliasF C fi with
        | false => exact ⟨noV, hret.flat ha, .inl rfl⟩
        | true =>
          refine ⟨_, hret, .inr ⟨View.le.refl _, fun b o v e => ?_⟩⟩
          have e : (if O' b then none else (bif aliasF C fi then view f ι st1.sto w else World.view w) b o) = some v := e
          rw [ha] at e
          split at e
          · cases e
          · exact e
      have fin : ∀ {N : List Value} {ι' : Own} {st2 : St}, LayOk C f' w' V X N ι (kills st1 (selOwns true fi.own as)) ι' st2 → Sim C f ι' st2 a w' ∧ V.le (view f ι' st2.sto w') :=
        fun hl => call_step hf s1 rfl (fun b => Iff.rfl) hkp hl hV
      simp only [retOf] at hk
      revert hk hret
      match hrts : fi.rts, d with
      | [], d =>
        intro hk _
        simp at hk; subst hk
        obtain ⟨z1, _⟩ := fin (N := []) .refl
        exact ⟨ι, z1.put d (fun _ _ _ => trivial)⟩
      | [t], some d =>
        intro hk hret
        match rvs, hret with
        | [v], hret =>
          have hr1 := hret.1
          cases ho : hd0 fi.out with
          | none =>
            rw [ho] at hr1 hk
            simp only [Option.some.injEq] at hk
            subst hk
            obtain ⟨z1, z2⟩ := fin (N := []) .refl
            obtain ⟨cs', e1, e2⟩ := hr1
            exact ⟨ι, z1.put (some d) (fun _ _ _ => .of ((e2.mono z2).ofU e1))⟩
          | some z =>
            rw [ho] at hr1 hk
            obtain ⟨e, e1, e2, _, e3⟩ := hr1
            simp only [elt_of e1] at hk
            cases hs : (kills st1 (selOwns true fi.own as)).sto d with
            | some b => simp [hs] at hk
            | none =>
              simp only [hs, Option.some.injEq] at hk
              subst hk
              have e2' : OwnIn C V w' e r.isNil r.toL v := e2
              have hl := (LayOk.refl (C := C) (f := f') (w := w') (V := V) (X := X) (N := []) (ι := ι) (st := kills st1 (selOwns true fi.own as))).add hs e2' (fun b hb => ⟨(e3 b hb).1, (e3 b hb).2.1, by simp⟩)
              obtain ⟨z1, z2⟩ := fin hl
              refine ⟨_, z1.put (some d) (fun _ _ _ => .of ?_)⟩
              simp [RepA, RepOw, St.blk, nbeq, setO, tupV]
        | [], hret => exact hret.elim
        | _ :: _ :: _, hret => exact hret.2.elim
      | t :: t' :: ts, some d =>
        intro hk hret
        simp only [Option.map_eq_some_iff] at hk
        obtain ⟨p, hp, rfl⟩ := hk
        have hret' : RetL C f' w' V X fi.out (t :: t' :: ts) r.get 0 rvs := hret
        obtain ⟨ι', hl, htup⟩ := layR_sound (ι := ι) hret' (st' := p.1) (l := p.2) hp
        obtain ⟨z1, z2⟩ := fin hl
        refine ⟨ι', z1.put (some d) (fun _ _ _ => .of ?_)⟩
        match rvs, hret with
        | v :: v' :: rvs, hret => exact ⟨_, rfl, htup _ z2⟩
        | [v], hret => exact hret.2.elim
        | [], hret => exact hret.elim
      | [t], none =>
        intro hk _
        simp at hk; subst hk
        obtain ⟨z1, _⟩ := fin (N := []) .refl
        exact ⟨ι, z1⟩
      | t :: t' :: ts, none =>
        intro hk _
        simp at hk; subst hk
        obtain ⟨z1, _⟩ := fin (N := []) .refl
        exact ⟨ι, z1⟩

end Go.Ab
end
section
namespace Go.Ab
open Go.RowKit
variable {C : Ctx} {P : Program}

theorem ownOk_none {st : St} : ∀ {os : List (Option Bool)} {xs : List AV}, os.all Option.isNone = true → ownOk st os xs = true
  | os, [], _ => rfl
  | [], x :: xs, h => by simp [ownOk, hd0, ownOk_none (os := []) (xs := xs) rfl]
  | o :: os, x :: xs, h => by
    simp at h
    simp [ownOk, hd0, h.1, ownOk_none (os := os) (xs := xs) (by simpa using h.2)]
theorem hd0_none {os : List (Option Bool)} (h : os.all Option.isNone = true) : hd0 os = none := by
  cases os with
  | nil => rfl
  | cons o os => simp at h; exact h.1
theorem toL_nth (u : U) (j : Nat) (h : j < u.len) : U.nth u.toL j = u.get j := by
  rw [nth_get, toL_get u j h]; rfl

/-- a call whose arguments are data, of a function with one flat result -/
theorem plain_call (ok : CtxOk P C) {f : Fr} (hf : FrOk f) {ι : Own} {st : St} {a : Act} {w : World} (s : Sim C f ι st a w) {g : Nat} {fi : Fn} {us cs : List U} {t : Nat} {r : U} (hS : Spec P C g (us ++ cs) r)
    (hfi : C.fn g = some fi) (ho : fi.own.all Option.isNone = true) (hu : fi.out.all Option.isNone = true) (hr : fi.rts = [t]) (hfl : flatT C 20 t = true) {as : List AV} {vs cvs : List Value} {tm : Nat → Value}
    (c1 : fitsArgs C st fi.params as = true) (hus : argUs C st as = some us)
    (hvs : as.length = vs.length ∧ ∀ (i : Nat) (x : AV) (v : Value), as[i]? = some x → vs[i]? = some v → RepS C (view f ι st.sto w) ι st.sto tm x v) (hcaps : CapsL C (World.view w) fi.caps cs cvs) :
    Does P g (vs ++ cvs) w fun v w' => Sim C f ι st a w' ∧ ∃ cs, IsVal C t v cs ∧ ∀ V, Rep C V t cs r := by
  let f' : Fr := ⟨World.view w, w, fun _ => False, fun _ _ => False⟩
  have hf' : FrOk f' := ⟨View.le.refl _, fun _ _ h => h.elim, fun _ h => h.elim, fun _ _ h => h.elim⟩
  obtain ⟨hargs, _⟩ := argsL_of ok (f' := f') s rfl (s.vle hf) (os := fi.own) c1 (ownOk_none ho) (by rw [selOwns_none ho]; rfl) hus (fun id _ _ b o v _ h => h) (fun id hi => by rw [selOwns_none ho] at hi; cases hi) (fun id _ b o v _ h => h) hvs
  have hspec := Spec.old (hS) hfi
  refine (hspec f' (vs ++ cvs) hf' (fun _ _ h => h) ⟨us, cs, vs, cvs, rfl, rfl, hargs, hcaps⟩).mono ?_
  rintro v w' ⟨hkp, X, rvs, hret, rfl⟩
  have hkills : kills st [] = st := rfl
  have fin : Sim C f ι st a w' ∧ noV.le (view f ι st.sto w') :=
    call_step hf s (own := []) (N := []) (V := noV) (X := X) (f' := f') (st' := st) (ι' := ι) rfl (fun b => by simp [f']) hkp .refl (.inl rfl)
  refine ⟨fin.1, ?_⟩
  rw [hr] at hret
  match rvs, hret with
  | [v], hret =>
    have h1 := hret.1
    rw [hd0_none hu] at h1
    obtain ⟨cs', e1, e2⟩ := h1
    exact ⟨cs', e1, fun V => e2.flat 20 hfl⟩
  | [], hret => exact hret.elim
  | _ :: _ :: _, hret => exact hret.2.elim

theorem Res1.data {V V' : View} {w : World} {o : Option Bool} {t : Nat} {u : U} {v : Value} {B : Nat → Prop} (h : Res1 C V w o t u v B) (hV : V.le V') (hs : ∀ b, blkOf v = some b → ∀ o x, w.cell? ⟨b, o, none⟩ = some x → V' b o = some x) : ∃ cs, IsVal C t v cs ∧ Rep C V' t cs u := by
  cases o with
  | none => obtain ⟨cs, h1, h2⟩ := h; exact ⟨cs, h1, h2.mono hV⟩
  | some z =>
    obtain ⟨e, h1, ⟨cs, k1, k2, k3, k4⟩, h3, _⟩ := h
    refine ⟨[v], isVal_one (fun fs e => by rw [h1] at e; cases e), ?_⟩
    have hlen : u.toL.length = u.len := toL_len u
    rcases k1.2 with ⟨e1, e2⟩ | ⟨g, cap, cur, e1, _, e3, e4, e5, e6, e7⟩
    · subst e1
      exact .nil h1 (by omega) (k3.1 rfl).1
    · subst e1
      rw [hlen] at e4 e7 k2
      have hn : u.isNil = false := by
        cases hh : u.isNil with
        | false => rfl
        | true =>
          have := h3 hh
          have hL : u.toL = [] := List.eq_nil_of_length_eq_zero (by omega)
          have := k3.2 ⟨hh, hL⟩
          cases this
      rw [hlen]
      refine .sl (fun i => chunk cs (C.sz e) i) h1 hn e4 (fun i hi => ?_) (fun i hi => ?_)
      · have hadd : (⟨g, 0, none⟩ : Addr).add (i * C.sz e) = ⟨g, i * C.sz e, none⟩ := by simp [add_eq]
        rw [hadd]
        refine ⟨fun _ => rfl, fun j x hx => ?_⟩
        apply hs g rfl
        have hj : j < C.sz e ∧ cs[i * C.sz e + j]? = some x := by
          unfold chunk at hx
          rw [List.getElem?_take] at hx
          split at hx
          · rename_i hlt; rw [List.getElem?_drop] at hx; exact ⟨hlt, hx⟩
          · cases hx
        have h7 : cs = cur.toList.take (u.len * C.sz e) := e7.symm
        have hx2 := hj.2
        rw [h7, List.getElem?_take] at hx2
        split at hx2
        · rw [Array.getElem?_toList] at hx2
          simp [World.cell?, e3, hx2]
        · cases hx2
      · have := (k2 i hi).mono hV
        rwa [toL_nth u i hi] at this

/-- a call whose arguments are data, of a function with one result -/
theorem plain_call2 (ok : CtxOk P C) {f : Fr} (hf : FrOk f) {ι : Own} {st : St} {a : Act} {w : World} (s : Sim C f ι st a w) {g : Nat} {fi : Fn} {us cs : List U} {t : Nat} {r : U} (hS : Spec P C g (us ++ cs) r)
    (hfi : C.fn g = some fi) (ho : fi.own.all Option.isNone = true) (hr : fi.rts = [t]) {as : List AV} {vs cvs : List Value} {tm : Nat → Value} (hno : as.all (fun x => (ownsOf x).isEmpty && !hasOwn x) = true)
    (c1 : fitsArgs C st fi.params as = true) (hus : argUs C st as = some us)
    (hvs : as.length = vs.length ∧ ∀ (i : Nat) (x : AV) (v : Value), as[i]? = some x → vs[i]? = some v → RepS C (view f ι st.sto w) ι st.sto tm x v) (hcaps : CapsL C (view f ι st.sto w) fi.caps cs cvs) :
    Does P g (vs ++ cvs) w fun v w' => Sim C f ι st a w' ∧ ∃ cs, IsVal C t v cs ∧ Rep C (view f ι st.sto w') t cs r := by
  let f' : Fr := ⟨view f ι st.sto w, w, fun _ => False, fun _ _ => False⟩
  have hf' : FrOk f' := ⟨s.vle hf, fun _ _ h => h.elim, fun _ h => h.elim, fun _ _ h => h.elim⟩
  have hse : ∀ (os : List (Option Bool)) (l : List AV), l.all (fun x => (ownsOf x).isEmpty && !hasOwn x) = true → selOwns false os l = [] := by
    intro os l
    induction l generalizing os with
    | nil => intro _; rfl
    | cons x l ih =>
      intro h
      simp only [List.all_cons, Bool.and_eq_true, List.isEmpty_iff] at h
      simp only [selOwns, h.1.1, ih os.tail h.2, List.append_nil]
      cases ((hd0 os).isSome == false) <;> rfl
  have hha : as.any hasOwn = false := by
    rw [List.any_eq_false]
    intro x hx
    have := List.all_eq_true.1 hno x hx
    simp only [Bool.and_eq_true, Bool.not_eq_true'] at this
    simp [this.2]
  obtain ⟨hargs, _⟩ := argsL_of ok (f' := f') s rfl (View.le.refl _) (os := fi.own) c1 (ownOk_none ho) (by rw [selOwns_none ho]; rfl) hus (fun id hi => by rw [hse _ _ hno] at hi; cases hi) (fun id hi => by rw [selOwns_none ho] at hi; cases hi) (by
    have e2 : as.flatMap (argIds st) = [] := by
      rw [List.flatMap_eq_nil_iff]
      intro x hx
      refine argIds_none ?_
      have := List.any_eq_false.1 hha x hx
      simpa using this
    rw [e2]; intro _ hi; cases hi) hvs
  have hspec := Spec.old (hS) hfi
  refine (hspec f' (vs ++ cvs) hf' (fun _ _ h => h) ⟨us, cs, vs, cvs, rfl, rfl, hargs, hcaps⟩).mono ?_
  rintro v w' ⟨hkp, X, rvs, hret, rfl⟩
  have fin : Sim C f ι st a w' ∧ (retV f' w' X).le (view f ι st.sto w') :=
    call_step hf s (own := []) (N := []) (V := retV f' w' X) (X := X) (f' := f') (st' := st) (ι' := ι) rfl (fun b => by simp [f']) hkp .refl (.inr ⟨View.le.refl _, View.le.refl _⟩)
  refine ⟨fin.1, ?_⟩
  rw [hr] at hret
  match rvs, hret with
  | [v], hret =>
    cases ho2 : hd0 fi.out with
    | none =>
      have h1 := hret.1
      rw [ho2] at h1
      obtain ⟨cs, h1, h2⟩ := h1
      exact ⟨cs, h1, h2.mono fin.2⟩
    | some z =>
      refine hret.1.data fin.2 ?_
      intro b hb o x hx
      have h1 := hret.1
      rw [ho2] at h1
      obtain ⟨e, _, _, _, h4⟩ := h1
      obtain ⟨_, h5, _⟩ := h4 b hb
      have h6 : w.heap.size ≤ b := by rcases h5 with h | h; exact h; exact h.elim
      unfold view
      rw [if_neg, if_neg]
      · exact hx
      · rintro ⟨h7, _⟩
        have := s.keep.size
        omega
      · rintro ⟨id, h7, h8⟩
        have := (s.blk id).lt h7 h8
        omega
  | [], hret => exact hret.elim
  | _ :: _ :: _, hret => exact hret.2.elim

theorem callV_sound (ok : CtxOk P C) {f : Fr} (hf : FrOk f) {ι : Own} {st st' : St} {a : Act} {w : World} (s : Sim C f ι st a w) {F : Nat → List U → Option U} (hF : ∀ g us r, F g us = some r → Spec P C g us r)
    {t : Nat} {u : U} {as : List AV} {d : Option Nat} {r : U} {x : Option U} {k : U → Option St} (h : callV C F st t u as d = some (x, k)) (hx : x = some r) (hk : k r = some st') {tm : Nat → Value} {vs : List Value} {fv : Value}
    (hvs : as.length = vs.length ∧ ∀ (i : Nat) (x : AV) (v : Value), as[i]? = some x → vs[i]? = some v → RepS C (view f ι st.sto w) ι st.sto tm x v) (hfv : RepA C (view f ι st.sto w) ι st.sto (.fn t u) fv) :
    ∃ cvs : List Value, fv = .func (.func u.fid) #[] cvs.toArray ∧ Does P u.fid (vs ++ cvs) w fun v w' => ∃ ι', Sim C f ι' st' (a.put d v) w' := by
  unfold callV at h
  cases hte : C.te t with
  | none => simp [hte] at h
  | some ty =>
    cases ty with
    | fn ps rt =>
      simp only [hte] at h
      obtain ⟨hc, h⟩ := cond_some h
      simp only [Bool.and_eq_true] at hc
      cases hus : argUs C st as with
      | none => simp [hus] at h
      | some us =>
        simp only [hus, Option.some.injEq, Prod.mk.injEq] at h
        obtain ⟨rfl, rfl⟩ := h
        simp only [Option.some.injEq] at hk
        subst hk
        obtain ⟨_, hrep⟩ := hfv
        cases hrep with
        | @fn _ ps' r' _ fi ad cs h hfi hp hr ho hu hl ha hcc =>
          rw [hte] at h; cases h
          subst hp
          refine ⟨_, rfl, (plain_call ok hf s (hF _ _ _ hx) hfi ho hu hr hc.2 hc.1 hus hvs ?_).mono ?_⟩
          · refine capsL_of (by simp) (by simp [toL_len, hl]) (fun j hj => ?_)
            rw [toL_nth u j (by omega)]
            refine ⟨ad j, cs j, by simp [List.getD, hj], (ha j hj).1, (ha j hj).2.mono (s.vle hf), (hcc j hj).mono (s.vle hf)⟩
          · rintro v w' ⟨z1, cs', e1, e2⟩
            exact ⟨ι, z1.put d (fun _ _ _ => .of ((e2 _).ofU e1))⟩
        | _ => simp_all
    | _ => simp [hte] at h

theorem run_callee {ρ : Operand → Value} {o : Oper} {c : Call} {fx : Operand} {g : Nat} {cvs : Array Value} (ho : o.op = .call c) (hc : c.callee = .value fx) (hg : ρ fx = .func (.func g) #[] cvs) (w : World) :
    (execOp ρ o).run P w = (callFunc g ((c.args.toList.map ρ ++ cvs.toList).toArray)).run P w := by
  have e : c.args.map ρ ++ cvs = (c.args.toList.map ρ ++ cvs.toList).toArray := by
    apply Array.ext'
    simp
  rw [← e]
  simp [execOp, ho, resolve, hc, hg, Deferred.ofValue, invoke]

theorem put_defers (a : Act) (d : Option Tmp) (v : Value) : (a.put d v).defers = a.defers := by cases d <;> rfl
theorem wp_does {o : Oper} {a : Act} {w : World} {next : Act → World → Prop} {Q : Exit → Act → World → Prop} {g : Nat} {vs : List Value} {R : Value → World → Prop} (h : Does P g vs w R)
    (he : (execOp a.eval o).run P w = (callFunc g vs.toArray).run P w) (hn : ∀ v w', R v w' → next (a.put o.dst v) w') : o.wp P a w next Q := by
  unfold Oper.wp
  rw [he]
  rcases h with ⟨h1, h2⟩ | ⟨v, w', h1, h2⟩
  · rw [h1, Oper.upon_enter]
    refine h2.mono fun e w' he => ?_
    cases e with
    | returned v => exact hn v w' he
    | panicked _ => exact he.elim
    | outgrown => exact he.elim
  · rw [h1, Oper.upon_value]
    exact hn v w' h2

/-- a call -/
theorem acall_sound (ok : CtxOk P C) {f : Fr} (hf : FrOk f) {ι : Own} {st st' : St} {a : Act} {w : World} (s : Sim C f ι st a w) {F : Nat → List U → Option U} (hF : ∀ g us r, F g us = some r → Spec P C g us r)
    {dr : Bool} {o : Oper} {c : Call} (ho : o.op = .call c) {ev : Operand → AV} (hev : ∀ x, RepS C (view f ι st.sto w) ι st.sto (tmOf a) (ev x) (a.eval x)) {r : U} {x : Option U} {k : U → Option St}
    (h : acall C F dr st ev c o.dst = some (x, k)) (hx : x = some r) (hk : k r = some st') {next : Act → World → Prop} {Q : Exit → Act → World → Prop} (hn : ∀ a' w', a'.defers = a.defers → (∃ ι', Sim C f ι' st' a' w') → next a' w') : o.wp P a w next Q := by
  unfold acall at h
  split at h
  · rename_i fx hc
    have hfx := hev fx
    split at h
    · rename_i g caps he
      rw [he] at hfx
      obtain ⟨cvs, h1, h2⟩ := hfx
      have h : callF C F dr st g caps (c.args.toList.map ev) o.dst = some (x, k) := by
        revert h
        cases drBad C dr fx g <;> simp
      exact wp_does (callF_sound ok hf s hF h hx hk (map_rep hev _) h2) (run_callee ho hc h1 w) (fun v w' hv => hn _ _ (put_defers _ _ _) hv)
    · rename_i t u he
      rw [he] at hfx
      obtain ⟨cvs, h1, h2⟩ := callV_sound ok hf s hF h hx hk (map_rep hev _) hfx
      exact wp_does h2 (run_callee ho hc h1 w) (fun v w' hv => hn _ _ (put_defers _ _ _) hv)
    · cases h
  · cases h

end Go.Ab
end
