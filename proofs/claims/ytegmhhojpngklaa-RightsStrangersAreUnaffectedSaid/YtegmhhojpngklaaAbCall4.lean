/- Calls: function values, and the operation. -/
import Derived.Test.YtegmhhojpngklaaAbCall3
namespace Go.Ab
open Go.RowKit
variable {C : Ctx} {P : Program}

theorem ownOk_none {st : St} : ∀ {os : List (Option Bool)} {xs : List AV}, os.all Option.isNone = true → ownOk st os xs = true
  | os, [], _ => rfl
  | [], x :: xs, h => by simp [ownOk, hd0, ownOk_none (os := []) (xs := xs) rfl]
  | o :: os, x :: xs, h => by
    simp at h
    simp [ownOk, hd0, h.1, ownOk_none (os := os) (xs := xs) (by simpa using h.2)]
theorem hd0_none {os : List (Option Bool)} (h : os.all Option.isNone = true) : hd0 os = none := by
  cases os with
  | nil => rfl
  | cons o os => simp at h; exact h.1
theorem toL_nth (u : U) (j : Nat) (h : j < u.len) : U.nth u.toL j = u.get j := by
  rw [nth_get, toL_get u j h]; rfl

/-- a call whose arguments are data, of a function with one flat result -/
theorem plain_call (ok : CtxOk P C) {f : Fr} (hf : FrOk f) {ι : Own} {st : St} {a : Act} {w : World} (s : Sim C f ι st a w) {g : Nat} {fi : Fn} {us cs : List U} {t : Nat} {r : U} (hS : Spec P C g (us ++ cs) r)
    (hfi : C.fn g = some fi) (ho : fi.own.all Option.isNone = true) (hu : fi.out.all Option.isNone = true) (hr : fi.rts = [t]) (hfl : flatT C 20 t = true) {as : List AV} {vs cvs : List Value} {tm : Nat → Value}
    (c1 : fitsArgs C st fi.params as = true) (hus : argUs C st as = some us)
    (hvs : as.length = vs.length ∧ ∀ (i : Nat) (x : AV) (v : Value), as[i]? = some x → vs[i]? = some v → RepS C (view f ι st.sto w) ι st.sto tm x v) (hcaps : CapsL C (World.view w) fi.caps cs cvs) :
    Does P g (vs ++ cvs) w fun v w' => Sim C f ι st a w' ∧ ∃ cs, IsVal C t v cs ∧ ∀ V, Rep C V t cs r := by
  let f' : Fr := ⟨World.view w, w, fun _ => False⟩
  have hf' : FrOk f' := ⟨View.le.refl _, fun _ _ h => h.elim, fun _ h => h.elim⟩
  obtain ⟨hargs, _⟩ := argsL_of ok (f' := f') s rfl (s.vle hf) (os := fi.own) c1 (ownOk_none ho) (by rw [selOwns_none ho]; rfl) hus (fun id _ _ b o v _ h => h) (fun id hi => by rw [selOwns_none ho] at hi; cases hi) (fun id _ b o v _ h => h) hvs
  obtain ⟨fi', hfi', hspec⟩ := hS
  rw [hfi] at hfi'
  cases hfi'
  refine (hspec f' (vs ++ cvs) hf' ⟨us, cs, vs, cvs, rfl, rfl, hargs, hcaps⟩).mono ?_
  rintro v w' ⟨hkp, X, rvs, hret, rfl⟩
  have hkills : kills st [] = st := rfl
  have fin : Sim C f ι st a w' ∧ noV.le (view f ι st.sto w') :=
    call_step hf s (own := []) (N := []) (V := noV) (X := X) (f' := f') (st' := st) (ι' := ι) rfl (fun b => by simp [f']) hkp .refl (.inl rfl)
  refine ⟨fin.1, ?_⟩
  rw [hr] at hret
  match rvs, hret with
  | [v], hret =>
    have h1 := hret.1
    rw [hd0_none hu] at h1
    obtain ⟨cs', e1, e2⟩ := h1
    exact ⟨cs', e1, fun V => e2.flat 20 hfl⟩
  | [], hret => exact hret.elim
  | _ :: _ :: _, hret => exact hret.2.elim

theorem Res1.data {V V' : View} {w : World} {o : Option Bool} {t : Nat} {u : U} {v : Value} {B : Nat → Prop} (h : Res1 C V w o t u v B) (hV : V.le V') (hs : ∀ b, blkOf v = some b → ∀ o x, w.cell? ⟨b, o, none⟩ = some x → V' b o = some x) : ∃ cs, IsVal C t v cs ∧ Rep C V' t cs u := by
  cases o with
  | none => obtain ⟨cs, h1, h2⟩ := h; exact ⟨cs, h1, h2.mono hV⟩
  | some z =>
    obtain ⟨e, h1, ⟨cs, k1, k2, k3, k4⟩, h3, _⟩ := h
    refine ⟨[v], isVal_one (fun fs e => by rw [h1] at e; cases e), ?_⟩
    have hlen : u.toL.length = u.len := toL_len u
    rcases k1.2 with ⟨e1, e2⟩ | ⟨g, cap, cur, e1, _, e3, e4, e5, e6, e7⟩
    · subst e1
      exact .nil h1 (by omega) (k3.1 rfl).1
    · subst e1
      rw [hlen] at e4 e7 k2
      have hn : u.isNil = false := by
        cases hh : u.isNil with
        | false => rfl
        | true =>
          have := h3 hh
          have hL : u.toL = [] := List.eq_nil_of_length_eq_zero (by omega)
          have := k3.2 ⟨hh, hL⟩
          cases this
      rw [hlen]
      refine .sl (fun i => chunk cs (C.sz e) i) h1 hn e4 (fun i hi => ?_) (fun i hi => ?_)
      · have hadd : (⟨g, 0, none⟩ : Addr).add (i * C.sz e) = ⟨g, i * C.sz e, none⟩ := by simp [add_eq]
        rw [hadd]
        refine ⟨fun _ => rfl, fun j x hx => ?_⟩
        apply hs g rfl
        have hj : j < C.sz e ∧ cs[i * C.sz e + j]? = some x := by
          unfold chunk at hx
          rw [List.getElem?_take] at hx
          split at hx
          · rename_i hlt; rw [List.getElem?_drop] at hx; exact ⟨hlt, hx⟩
          · cases hx
        have h7 : cs = cur.toList.take (u.len * C.sz e) := e7.symm
        have hx2 := hj.2
        rw [h7, List.getElem?_take] at hx2
        split at hx2
        · rw [Array.getElem?_toList] at hx2
          simp [World.cell?, e3, hx2]
        · cases hx2
      · have := (k2 i hi).mono hV
        rwa [toL_nth u i hi] at this

/-- a call whose arguments are data, of a function with one result -/
theorem plain_call2 (ok : CtxOk P C) {f : Fr} (hf : FrOk f) {ι : Own} {st : St} {a : Act} {w : World} (s : Sim C f ι st a w) {g : Nat} {fi : Fn} {us cs : List U} {t : Nat} {r : U} (hS : Spec P C g (us ++ cs) r)
    (hfi : C.fn g = some fi) (ho : fi.own.all Option.isNone = true) (hr : fi.rts = [t]) {as : List AV} {vs cvs : List Value} {tm : Nat → Value} (hno : as.all (fun x => (ownsOf x).isEmpty && !hasOwn x) = true)
    (c1 : fitsArgs C st fi.params as = true) (hus : argUs C st as = some us)
    (hvs : as.length = vs.length ∧ ∀ (i : Nat) (x : AV) (v : Value), as[i]? = some x → vs[i]? = some v → RepS C (view f ι st.sto w) ι st.sto tm x v) (hcaps : CapsL C (view f ι st.sto w) fi.caps cs cvs) :
    Does P g (vs ++ cvs) w fun v w' => Sim C f ι st a w' ∧ ∃ cs, IsVal C t v cs ∧ Rep C (view f ι st.sto w') t cs r := by
  let f' : Fr := ⟨view f ι st.sto w, w, fun _ => False⟩
  have hf' : FrOk f' := ⟨s.vle hf, fun _ _ h => h.elim, fun _ h => h.elim⟩
  have hse : ∀ (os : List (Option Bool)) (l : List AV), l.all (fun x => (ownsOf x).isEmpty && !hasOwn x) = true → selOwns false os l = [] := by
    intro os l
    induction l generalizing os with
    | nil => intro _; rfl
    | cons x l ih =>
      intro h
      simp only [List.all_cons, Bool.and_eq_true, List.isEmpty_iff] at h
      simp only [selOwns, h.1.1, ih os.tail h.2, List.append_nil]
      cases ((hd0 os).isSome == false) <;> rfl
  have hha : as.any hasOwn = false := by
    rw [List.any_eq_false]
    intro x hx
    have := List.all_eq_true.1 hno x hx
    simp only [Bool.and_eq_true, Bool.not_eq_true'] at this
    simp [this.2]
  obtain ⟨hargs, _⟩ := argsL_of ok (f' := f') s rfl (View.le.refl _) (os := fi.own) c1 (ownOk_none ho) (by rw [selOwns_none ho]; rfl) hus (fun id hi => by rw [hse _ _ hno] at hi; cases hi) (fun id hi => by rw [selOwns_none ho] at hi; cases hi) (by
    have e2 : as.flatMap (argIds st) = [] := by
      rw [List.flatMap_eq_nil_iff]
      intro x hx
      refine argIds_none ?_
      have := List.any_eq_false.1 hha x hx
      simpa using this
    rw [e2]; intro _ hi; cases hi) hvs
  obtain ⟨fi', hfi', hspec⟩ := hS
  rw [hfi] at hfi'
  cases hfi'
  refine (hspec f' (vs ++ cvs) hf' ⟨us, cs, vs, cvs, rfl, rfl, hargs, hcaps⟩).mono ?_
  rintro v w' ⟨hkp, X, rvs, hret, rfl⟩
  have fin : Sim C f ι st a w' ∧ (retV f' w' X).le (view f ι st.sto w') :=
    call_step hf s (own := []) (N := []) (V := retV f' w' X) (X := X) (f' := f') (st' := st) (ι' := ι) rfl (fun b => by simp [f']) hkp .refl (.inr ⟨View.le.refl _, View.le.refl _⟩)
  refine ⟨fin.1, ?_⟩
  rw [hr] at hret
  match rvs, hret with
  | [v], hret =>
    cases ho2 : hd0 fi.out with
    | none =>
      have h1 := hret.1
      rw [ho2] at h1
      obtain ⟨cs, h1, h2⟩ := h1
      exact ⟨cs, h1, h2.mono fin.2⟩
    | some z =>
      refine hret.1.data fin.2 ?_
      intro b hb o x hx
      have h1 := hret.1
      rw [ho2] at h1
      obtain ⟨e, _, _, _, h4⟩ := h1
      obtain ⟨_, h5, _⟩ := h4 b hb
      have h6 : w.heap.size ≤ b := by rcases h5 with h | h; exact h; exact h.elim
      unfold view
      rw [if_neg, if_neg]
      · exact hx
      · rintro ⟨h7, _⟩
        have := s.keep.size
        omega
      · rintro ⟨id, h7, h8⟩
        have := (s.blk id).lt h7 h8
        omega
  | [], hret => exact hret.elim
  | _ :: _ :: _, hret => exact hret.2.elim

theorem callV_sound (ok : CtxOk P C) {f : Fr} (hf : FrOk f) {ι : Own} {st st' : St} {a : Act} {w : World} (s : Sim C f ι st a w) {F : Nat → List U → Option U} (hF : ∀ g us r, F g us = some r → Spec P C g us r)
    {t : Nat} {u : U} {as : List AV} {d : Option Nat} {r : U} {x : Option U} {k : U → Option St} (h : callV C F st t u as d = some (x, k)) (hx : x = some r) (hk : k r = some st') {tm : Nat → Value} {vs : List Value} {fv : Value}
    (hvs : as.length = vs.length ∧ ∀ (i : Nat) (x : AV) (v : Value), as[i]? = some x → vs[i]? = some v → RepS C (view f ι st.sto w) ι st.sto tm x v) (hfv : RepA C (view f ι st.sto w) ι st.sto (.fn t u) fv) :
    ∃ cvs : List Value, fv = .func (.func u.fid) #[] cvs.toArray ∧ Does P u.fid (vs ++ cvs) w fun v w' => ∃ ι', Sim C f ι' st' (a.put d v) w' := by
  unfold callV at h
  cases hte : C.te t with
  | none => simp [hte] at h
  | some ty =>
    cases ty with
    | fn ps rt =>
      simp only [hte] at h
      obtain ⟨hc, h⟩ := cond_some h
      simp only [Bool.and_eq_true] at hc
      cases hus : argUs C st as with
      | none => simp [hus] at h
      | some us =>
        simp only [hus, Option.some.injEq, Prod.mk.injEq] at h
        obtain ⟨rfl, rfl⟩ := h
        simp only [Option.some.injEq] at hk
        subst hk
        obtain ⟨_, hrep⟩ := hfv
        cases hrep with
        | @fn _ ps' r' _ fi ad cs h hfi hp hr ho hu hl ha hcc =>
          rw [hte] at h; cases h
          subst hp
          refine ⟨_, rfl, (plain_call ok hf s (hF _ _ _ hx) hfi ho hu hr hc.2 hc.1 hus hvs ?_).mono ?_⟩
          · refine capsL_of (by simp) (by simp [toL_len, hl]) (fun j hj => ?_)
            rw [toL_nth u j (by omega)]
            refine ⟨ad j, cs j, by simp [List.getD, hj], (ha j hj).1, (ha j hj).2.mono (s.vle hf), (hcc j hj).mono (s.vle hf)⟩
          · rintro v w' ⟨z1, cs', e1, e2⟩
            exact ⟨ι, z1.put d (fun _ _ _ => .of ((e2 _).ofU e1))⟩
        | _ => simp_all
    | _ => simp [hte] at h

theorem run_callee {ρ : Operand → Value} {o : Oper} {c : Call} {fx : Operand} {g : Nat} {cvs : Array Value} (ho : o.op = .call c) (hc : c.callee = .value fx) (hg : ρ fx = .func (.func g) #[] cvs) (w : World) :
    (execOp ρ o).run P w = (callFunc g ((c.args.toList.map ρ ++ cvs.toList).toArray)).run P w := by
  have e : c.args.map ρ ++ cvs = (c.args.toList.map ρ ++ cvs.toList).toArray := by
    apply Array.ext'
    simp
  rw [← e]
  simp [execOp, ho, resolve, hc, hg, Deferred.ofValue, invoke]

theorem wp_does {o : Oper} {a : Act} {w : World} {next : Act → World → Prop} {Q : Exit → Act → World → Prop} {g : Nat} {vs : List Value} {R : Value → World → Prop} (h : Does P g vs w R)
    (he : (execOp a.eval o).run P w = (callFunc g vs.toArray).run P w) (hn : ∀ v w', R v w' → next (a.put o.dst v) w') : o.wp P a w next Q := by
  unfold Oper.wp
  rw [he]
  rcases h with ⟨h1, h2⟩ | ⟨v, w', h1, h2⟩
  · rw [h1, Oper.upon_enter]
    refine h2.mono fun e w' he => ?_
    cases e with
    | returned v => exact hn v w' he
    | panicked _ => exact he.elim
    | outgrown => exact he.elim
  · rw [h1, Oper.upon_value]
    exact hn v w' h2

/-- a call -/
theorem acall_sound (ok : CtxOk P C) {f : Fr} (hf : FrOk f) {ι : Own} {st st' : St} {a : Act} {w : World} (s : Sim C f ι st a w) {F : Nat → List U → Option U} (hF : ∀ g us r, F g us = some r → Spec P C g us r)
    {dr : Bool} {o : Oper} {c : Call} (ho : o.op = .call c) {ev : Operand → AV} (hev : ∀ x, RepS C (view f ι st.sto w) ι st.sto (tmOf a) (ev x) (a.eval x)) {r : U} {x : Option U} {k : U → Option St}
    (h : acall C F dr st ev c o.dst = some (x, k)) (hx : x = some r) (hk : k r = some st') {next : Act → World → Prop} {Q : Exit → Act → World → Prop} (hn : ∀ a' w', (∃ ι', Sim C f ι' st' a' w') → next a' w') : o.wp P a w next Q := by
  unfold acall at h
  split at h
  · rename_i fx hc
    have hfx := hev fx
    split at h
    · rename_i g caps he
      rw [he] at hfx
      obtain ⟨cvs, h1, h2⟩ := hfx
      have h : callF C F dr st g caps (c.args.toList.map ev) o.dst = some (x, k) := by
        revert h
        cases drBad C dr fx g <;> simp
      exact wp_does (callF_sound ok hf s hF h hx hk (map_rep hev _) h2) (run_callee ho hc h1 w) (fun v w' hv => hn _ _ hv)
    · rename_i t u he
      rw [he] at hfx
      obtain ⟨cvs, h1, h2⟩ := callV_sound ok hf s hF h hx hk (map_rep hev _) hfx
      exact wp_does h2 (run_callee ho hc h1 w) (fun v w' hv => hn _ _ hv)
    · cases h
  · cases h

end Go.Ab
