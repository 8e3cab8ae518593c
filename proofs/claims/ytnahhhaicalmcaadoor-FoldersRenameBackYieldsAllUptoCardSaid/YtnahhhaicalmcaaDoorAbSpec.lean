/- What a call is handed and what it hands back. -/
import Derived.Test.YtnahhhaicalmcaaDoorAbArg
set_option linter.unusedVariables false
set_option linter.unusedSimpArgs false
namespace Go.Ab
open Go.RowKit
variable {C : Ctx} {P : Program}

theorem choice2 {α β : Type} {p : Nat → α → β → Prop} (h : ∀ j, ∃ a b, p j a b) : ∃ (f : Nat → α) (g : Nat → β), ∀ j, p j (f j) (g j) :=
  ⟨fun j => Classical.choose (h j), fun j => Classical.choose (Classical.choose_spec (h j)), fun j => Classical.choose_spec (Classical.choose_spec (h j))⟩
theorem argU_rep {H V : View} {ι : Own} {st : St} {w : World} (hb : ∀ id, BlkOk C H ι st.sto w id) (hH : H.le V) {x : AV} (hV : ∀ id ∈ ownsOf x, Shows ι w V id) (hc : ∀ id ∈ argIds st x, Shows ι w V id) {v : Value} {u : U} {t : Nat}
    (hx : RepA C H ι st.sto x v) (hf : fitsArg C st t x = true) (h : argU C st x = some u) : ∃ cs, IsVal C t v cs ∧ Rep C V t cs u := by
  cases x with
  | clo f caps =>
    cases ht : C.te t with
    | none => simp [fitsArg, ht, fitsT] at hf
    | some ty =>
      cases ty with
      | fn ps r =>
        simp only [fitsArg, ht] at hf
        cases hfi : C.fn f with
        | none => simp [hfi] at hf
        | some fi =>
          cases hts : capTs st caps with
          | none => simp [hfi, hts] at hf
          | some ts =>
            simp only [hfi, hts, Bool.and_eq_true, beq_iff_eq] at hf
            obtain ⟨⟨⟨⟨h1, h2⟩, h3⟩, h4⟩, rfl⟩ := hf
            simp only [argU, Option.map_eq_some_iff] at h
            obtain ⟨us, hus, rfl⟩ := h
            obtain ⟨vs, rfl, hcaps⟩ := hx
            obtain ⟨e1, e2, e3⟩ := capUs_rep hb hH hcaps hus hts hc
            have e4 : ∀ j, ∃ (ad : Addr) (cs : List Value), j < fi.caps.length → vs.getD j undef = .pointer (some ad) ∧ ad.spot = none ∧ At V ad cs ∧ Rep C V (nthN fi.caps j) cs (U.nth us j) := by
              intro j
              by_cases hj : j < fi.caps.length
              · obtain ⟨ad, cs, k⟩ := e3 j hj
                exact ⟨ad, cs, fun _ => k⟩
              · exact ⟨⟨0, 0, none⟩, [], fun h => (hj h).elim⟩
            obtain ⟨ad, cs, hk⟩ := choice2 e4
            refine ⟨_, isVal_one (fun fs e => by rw [ht] at e; cases e), ?_⟩
            have hvs : vs = (List.range fi.caps.length).map fun j => .pointer (some (ad j)) := by
              apply List.ext_getElem
              · simp [e1]
              · intro j k1 k2
                have := (hk j (by omega)).1
                simp only [List.getD_eq_getElem?_getD, List.getElem?_eq_getElem k1, Option.getD_some] at this
                simpa using this
            rw [hvs]
            exact .fn (u := .C f us.length (U.nth us)) ad cs ht hfi h1 h2 h3 h4 (by simpa [U.len] using e2) (fun j hj => ⟨(hk j hj).2.1, (hk j hj).2.2.1⟩) (fun j hj => (hk j hj).2.2.2)
      | _ => simp [fitsArg, ht, fitsT] at hf
  | _ => exact toU_rep hb hH hV hx hf h

/-- an own slice that is handed over -/
def OwnIn (C : Ctx) (H : View) (w : World) (e : Nat) (z : Bool) (xs : List U) (v : Value) : Prop :=
  ∃ cs, w.owns e (C.sz e) v xs.length cs ∧ (∀ i, i < xs.length → Rep C H e (chunk cs (C.sz e) i) (U.nth xs i)) ∧ (v = .slice none 0 0 ↔ z = true ∧ xs = []) ∧ ∃ ty, C.te e = some ty
def ownVs : List (Option Bool) → List Value → List Value
  | _, [] => []
  | os, v :: vs => (match hd0 os with | some _ => [v] | none => []) ++ ownVs os.tail vs
/-- a value that goes from call to call: as a datum, or its memory with it -/
def Res1 (C : Ctx) (V : View) (w : World) (o : Option Bool) (t : Nat) (u : U) (v : Value) (B : Nat → Prop) : Prop :=
  match o with
  | none => ∃ cs, IsVal C t v cs ∧ Rep C V t cs u
  | some _ => ∃ e, C.te t = some (.sl e) ∧ OwnIn C V w e u.isNil u.toL v ∧ (u.isNil = true → u.len = 0) ∧ ∀ b, blkOf v = some b → B b
theorem Res1.imp {C : Ctx} {V : View} {w : World} {o : Option Bool} {t : Nat} {u : U} {v : Value} {B B' : Nat → Prop} (h : Res1 C V w o t u v B) (hB : o ≠ none → ∀ b, blkOf v = some b → B b → B' b) : Res1 C V w o t u v B' := by
  cases o with
  | none => exact h
  | some z =>
    obtain ⟨e, h1, h2, h4, h3⟩ := h
    exact ⟨e, h1, h2, h4, fun b hb => hB (by simp) b hb (h3 b hb)⟩
def ArgsL (C : Ctx) (f : Fr) : List (Option Bool) → List Nat → List U → List Value → Prop
  | _, [], [], [] => True
  | os, t :: ts, u :: us, v :: vs => Res1 C f.H f.w0 (hd0 os) t u v (fun b => f.O b ∧ ∀ v' ∈ ownVs os.tail vs, blkOf v' ≠ some b) ∧ ArgsL C f os.tail ts us vs
  | _, _, _, _ => False
def CapsL (C : Ctx) (H : View) : List Nat → List U → List Value → Prop
  | [], [], [] => True
  | t :: ts, u :: us, v :: vs => RepPtr C H t u v ∧ CapsL C H ts us vs
  | _, _, _ => False
def ArgsOk (C : Ctx) (f : Fr) (fi : Fn) (us : List U) (vs : List Value) : Prop :=
  ∃ us1 us2 vs1 vs2, us = us1 ++ us2 ∧ vs = vs1 ++ vs2 ∧ ArgsL C f fi.own fi.params us1 vs1 ∧ CapsL C f.H fi.caps us2 vs2

open Classical in
noncomputable def retV (f : Fr) (w : World) (X : Nat → Prop) : View := fun b o => if X b then none else if b < f.w0.heap.size ∧ ¬ f.O b then f.H b o else w.cell? ⟨b, o, none⟩
def RetL (C : Ctx) (f : Fr) (w : World) (V : View) (X : Nat → Prop) : List (Option Bool) → List Nat → (Nat → U) → Nat → List Value → Prop
  | _, [], _, _, [] => True
  | os, t :: ts, g, j, v :: vs => Res1 C V w (hd0 os) t (g j) v (fun b => X b ∧ (f.w0.heap.size ≤ b ∨ f.O b) ∧ ∀ v' ∈ ownVs os.tail vs, blkOf v' ≠ some b) ∧ RetL C f w V X os.tail ts g (j + 1) vs
  | _, _, _, _, _ => False
def resG (rts : List Nat) (r : U) : Nat → U := match rts with | [_] => fun _ => r | _ => r.get
def tupV : List Value → Value
  | [v] => v
  | vs => .tuple vs.toArray
def RetOk (C : Ctx) (f : Fr) (fi : Fn) (r : U) (v : Value) (w : World) : Prop :=
  Keep f.O f.w0 w ∧ ∃ X vs, RetL C f w (retV f w X) X fi.out fi.rts (resG fi.rts r) 0 vs ∧ v = tupV vs

/-- a call's way -/
def Does (P : Program) (g : Nat) (vs : List Value) (w : World) (R : Value → World → Prop) : Prop :=
  ((callFunc g vs.toArray).run P w = .ok (.enter g vs.toArray) w ∧ Calls P g vs.toArray w fun | .returned v, w' => R v w' | _, _ => False) ∨
  ∃ v w', (callFunc g vs.toArray).run P w = .ok (.value v) w' ∧ R v w'
/-- results that are data -/
def XRes (C : Ctx) (V : View) (ts : List Nat) (u : U) (v : Value) : Prop := ∃ vs, v = tupV vs ∧ RepTup C V (fun _ => undef) (fun _ => none) u (ts.map fun t => (t, none)) vs 0
def act0 (n : Nat) (vs : List Value) : Act := { tmps := vs.toArray ++ Array.replicate (n - vs.length) undef, defers := [] }
/-- what a function does that works on the caller's memory -/
def XOk (P : Program) (C : Ctx) (g : Nat) (fi : Fn) (us : List U) (r : U) : Prop :=
  ∀ ti tu, fi.xt = some (ti, tu) → ∀ (f : Fr) (vs : List Value) (ι : Own), FrOk f → (∀ k o, ¬ f.kp k o) → vs.length = fi.params.length + fi.caps.length → Sim C f ι (unpack ti (decJ us)) (act0 fi.ntmps vs) f.w0 →
    Does P g vs f.w0 fun v w' => ∃ (ι' : Own) (tm : Array Value), (∀ j ∈ tu.slots.map (·.1), tm.getD j undef = vs.getD j undef) ∧ Sim C f ι' (unpack tu (decR r)) { tmps := tm, defers := [] } w' ∧ XRes C (view f ι' (unpack tu (decR r)).sto w') fi.rts (r.get 0) v
/-- what a function does: the contract -/
def Spec (P : Program) (C : Ctx) (g : Nat) (us : List U) (r : U) : Prop :=
  (∃ fi, C.fn g = some fi ∧ ∀ (f : Fr) (vs : List Value), FrOk f → (∀ k o, ¬ f.kp k o) → ArgsOk C f fi us vs → Does P g vs f.w0 (RetOk C f fi r)) ∨
  (C.fn g = none ∧ ∃ fi, C.xfn g = some fi ∧ XOk P C g fi us r)
theorem Spec.old {P : Program} {C : Ctx} {g : Nat} {us : List U} {r : U} (h : Spec P C g us r) {fi : Fn} (hf : C.fn g = some fi) : ∀ (f : Fr) (vs : List Value), FrOk f → (∀ k o, ¬ f.kp k o) → ArgsOk C f fi us vs → Does P g vs f.w0 (RetOk C f fi r) := by
  rcases h with ⟨fi', h1, h2⟩ | ⟨h1, _⟩
  · rw [hf] at h1; cases h1; exact h2
  · rw [hf] at h1; cases h1

theorem distinct_cons {x : Nat} {l : List Nat} (h : distinct (x :: l) = true) : x ∉ l ∧ distinct l = true := by
  simp only [distinct, Bool.and_eq_true, Bool.not_eq_true', List.any_eq_false, nbeq, decide_eq_true_eq] at h
  exact ⟨fun hm => h.1 x hm rfl, h.2⟩
theorem distinct_append {l l' : List Nat} (h : distinct (l ++ l') = true) : distinct l = true ∧ distinct l' = true ∧ ∀ x ∈ l, x ∉ l' := by
  induction l with
  | nil => exact ⟨rfl, h, by simp⟩
  | cons x l ih =>
    obtain ⟨h1, h2⟩ := distinct_cons (x := x) (l := l ++ l') h
    obtain ⟨k1, k2, k3⟩ := ih h2
    simp only [List.mem_append, not_or] at h1
    refine ⟨?_, k2, ?_⟩
    · simp only [distinct, Bool.and_eq_true, Bool.not_eq_true', List.any_eq_false, nbeq, decide_eq_true_eq]
      exact ⟨fun y hy e => h1.1 (e ▸ hy), k1⟩
    · intro y hy
      simp only [List.mem_cons] at hy
      rcases hy with rfl | hy
      · exact h1.2
      · exact k3 y hy
theorem toL_ofL (b : Bool) (xs : List U) : (U.ofL b xs).toL = xs := by
  apply List.ext_getElem
  · simp [U.toL, len_ofL]
  · intro i h1 h2
    simp [U.toL, get_ofL, nth_get, h2]
theorem toL_owU (z : Bool) (xs : List U) : (owU z xs none).toL = xs := toL_ofL _ _

theorem owU_nil (z : Bool) (xs : List U) (r : Option (Nat × Nat)) : (owU z xs r).isNil = true → (owU z xs r).len = 0 := by
  intro h
  have h : (z && xs.isEmpty) = true := h
  cases xs with
  | nil => cases r <;> simp [owU, prt, U.ofL, U.len]
  | cons x xs => simp at h
/-- a result -/
theorem ares1_sound (ok : CtxOk P C) {f : Fr} {ι : Own} {st : St} {a : Act} {w : World} (s : Sim C f ι st a w) {V : View} (hH : (view f ι st.sto w).le V) {o : Option Bool} {t : Nat} {x : AV} {u : U} {v : Value} {tm : Nat → Value}
    (hx : RepS C (view f ι st.sto w) ι st.sto tm x v) (h : ares1 C st o t x = some u) (hV : o = none → ∀ id ∈ ownsOf x, Shows ι w V id) (hA : ∀ id ∈ argIds st x, liveB st id = true → Shows ι w V id) :
    Res1 C V w o t u v (fun b => ∃ id, ownsOf x = [id] ∧ live st.sto id ∧ blkOf (ι id) = some b) := by
  cases o with
  | none =>
    simp only [ares1] at h
    obtain ⟨hc, h⟩ := cond_some h
    simp only [Bool.and_eq_true, List.all_eq_true] at hc
    have hcv : isCv x = false := by
      cases x <;> first | rfl | (simp [argU, AV.toU, AV.flat] at h)
    exact argU_rep s.blk hH (hV rfl) (fun id hi => hA id hi (hc.2 id hi)) (ev_not_cv hx hcv) hc.1 h
  | some z =>
    cases x with
    | ow id r =>
      cases hs : st.sto id with
      | none => rcases r with _ | ⟨_ | _, _⟩ <;> simp [ares1, hs] at h
      | some b =>
        cases b with
        | arr e z' xs =>
          have hr : (bif (match elt C t with | some e' => Nat.beq e e' | none => false) then some (owU z' xs r) else none) = some u ∧ (r = none ∨ ∃ n, r = some (0, n)) := by
            rcases r with _ | ⟨_ | _, n⟩
            · simp only [ares1, hs] at h; exact ⟨h, .inl rfl⟩
            · simp only [ares1, hs] at h; exact ⟨h, .inr ⟨n, rfl⟩⟩
            · simp [ares1] at h
          clear h
          obtain ⟨h, hr⟩ := hr
          obtain ⟨he, h⟩ := cond_some h
          cases h
          have hte : C.te t = some (.sl e) := by
            revert he
            cases hel : elt C t with
            | none => simp
            | some e' =>
              simp only [nbeq, decide_eq_true_eq]
              rintro rfl
              exact elt_some hel
          have hx' : RepOw C ι st.sto id r v := hx
          unfold RepOw at hx'
          rw [hs] at hx'
          obtain ⟨cs, k1, k2, k3, k4⟩ := (s.blk id).arr hs
          have hnil : ∀ ys : List U, (((z' && xs.isEmpty) = true ∧ ys = []) ↔ (z' = true ∧ xs = []) ∧ ys = []) := by
            intro ys
            cases xs <;> simp
          rcases hr with rfl | ⟨n, rfl⟩
          · have hx' : v = ι id := hx'
            subst hx'
            refine ⟨e, hte, ⟨cs, ?_, ?_, ?_, k4⟩, owU_nil z' xs none, fun b hb => ⟨id, rfl, live_arr hs, hb⟩⟩
            · rw [toL_owU]; exact k1
            · rw [toL_owU]; exact fun i hi => (k2 i hi).mono hH
            · rw [toL_owU]
              show _ ↔ (z' && xs.isEmpty) = true ∧ _
              rw [hnil, k3]
              exact ⟨fun h => ⟨h, h.2⟩, fun h => h.1⟩
          · obtain ⟨hle, hx'⟩ := hx'
            have hn : n ≤ xs.length := by omega
            have hL : (owU z' xs (some (0, n))).toL = xs.take n := by simp [owU, toL_ofL, prt]
            have hlen : (xs.take n).length = n := by simp; omega
            have hcs := k1.1
            have hle2 : n * C.sz e ≤ xs.length * C.sz e := Nat.mul_le_mul_right _ hn
            have hown : w.owns e (C.sz e) v n (cs.take (n * C.sz e)) := by
              refine ⟨by simp; omega, ?_⟩
              rcases hx' with ⟨_, h1, h2⟩ | ⟨g, cap, ad, e1, e2, e3, e4, _, e6⟩
              · exact .inl ⟨h1, h2⟩
              · rcases k1.2 with ⟨h1, _⟩ | ⟨g', cap', cur, h1, h2, h3, h4, h5, h6, h7⟩
                · rw [e1] at h1; cases h1
                · rw [e1] at h1
                  cases h1
                  have had : ad = ⟨g, 0, none⟩ := by
                    obtain ⟨b, of, sp⟩ := ad
                    simp at e3 e4 e6
                    simp [e3, e4, e6]
                  refine .inr ⟨g, cap, cur, by rw [e2, had]; simp, h2, h3, by omega, h5, h6, ?_⟩
                  rw [← h7, List.take_take, Nat.min_eq_left hle2]
            refine ⟨e, hte, ⟨cs.take (n * C.sz e), ?_, ?_, ?_, k4⟩, owU_nil z' xs _, fun b hb => ⟨id, rfl, live_arr hs, ?_⟩⟩
            · rw [hL, hlen]; exact hown
            · rw [hL, hlen]
              intro i hi
              have hc : chunk (cs.take (n * C.sz e)) (C.sz e) i = chunk cs (C.sz e) i := by
                unfold chunk
                rw [List.drop_take, List.take_take, Nat.min_eq_left]
                have : (i + 1) * C.sz e ≤ n * C.sz e := Nat.mul_le_mul_right _ hi
                rw [Nat.add_mul] at this
                omega
              have hg : U.nth (xs.take n) i = U.nth xs i := by
                rw [nth_get, nth_get, List.getElem?_take, if_pos hi]
              rw [hc, hg]
              exact (k2 i (by omega)).mono hH
            · rw [hL]
              show _ ↔ (z' && xs.isEmpty) = true ∧ _
              rw [hnil, ← k3]
              rcases hx' with ⟨e1, e2, e3⟩ | ⟨g, cap, ad, e1, e2, _⟩
              · subst e3; simp [e1, e2]
              · simp [e1, e2]
            · rcases hx' with ⟨e1, e2, e3⟩ | ⟨g, cap, ad, e1, e2, e3, _⟩
              · rw [e2] at hb; simp [blkOf] at hb
              · rw [e2] at hb; simp only [blkOf, Option.some.injEq] at hb; rw [e1]; simp [blkOf, ← hb, e3]
        | _ => rcases r with _ | ⟨_ | _, _⟩ <;> simp [ares1, hs] at h
    | nl =>
      simp only [ares1] at h
      obtain ⟨he, h⟩ := cond_some h
      cases h
      cases hel : elt C t with
      | none => simp [hel] at he
      | some e =>
        have hte := elt_some hel
        have hv : v = .slice none 0 0 := hx
        subst hv
        obtain ⟨ty, h1, _⟩ := ok.elem t e hte
        have h0 : U.nil.toL = [] := rfl
        refine ⟨e, hte, ?_, fun _ => rfl, fun b hb => by simp [blkOf] at hb⟩
        rw [h0]
        exact ⟨[], ⟨by simp, .inl ⟨rfl, rfl⟩⟩, fun i hi => by simp at hi, by simp [U.nil, U.isNil], ⟨ty, h1⟩⟩
    | _ => simp [ares1] at h

def resRun (tmps : Array Value) : ResultVar → Sem Value
  | .tmp t => pure (tmps.getD t undef)
  | .cell a t => do loadVar t (← asAddr (tmps.getD a undef))
theorem res_one (ok : CtxOk P C) {f : Fr} (hf : FrOk f) {ι : Own} {st : St} {a : Act} {w : World} (s : Sim C f ι st a w) (r : ResultVar) (hj : resAV C st r ≠ .junk) :
    ∃ q, (resRun a.tmps r).run P w = .ok q w ∧ RepS C (view f ι st.sto w) ι st.sto (tmOf a) (resAV C st r) q := by
  cases r with
  | tmp t => exact ⟨_, rfl, s.env t⟩
  | cell t ty =>
    simp only [resAV] at hj ⊢
    have ht := s.env t
    cases hl : look st.env t with
    | pb id p =>
      rw [hl] at hj ht
      cases p with
      | cons _ _ => simp at hj
      | nil =>
        simp only at hj ⊢
        cases ha : aload C st ty (.pb id []) with
        | none => rw [ha] at hj; simp at hj
        | some x =>
          obtain ⟨q, h1, h2⟩ := aload_sound ok (s.vle hf) s.blk ha ht
          refine ⟨q, ?_, .of h2⟩
          have hp : RepPb C ι st.sto id [] (tmOf a t) := ht
          unfold RepPb at hp
          cases hs : st.sto id with
          | none => simp [aload, hs] at ha
          | some b =>
            cases b with
            | box t' vs =>
              rw [hs] at hp
              obtain ⟨_, g, _, hp⟩ := hp
              rw [hp] at h1
              have : a.tmps.getD t undef = .pointer (some ⟨g, poff C t' [], none⟩) := hp
              simp only [resRun, this]
              simpa [Instr.loadAt, Instr.sureAddr, asAddr] using h1
            | _ => simp [aload, hs] at ha
    | _ => rw [hl] at hj; simp at hj

theorem argU_live {st : St} {x : AV} {u : U} (h : argU C st x = some u) {id : Nat} (hi : id ∈ ownsOf x) : live st.sto id := by
  cases x with
  | ow id' r =>
    simp [ownsOf] at hi; subst hi
    simp only [argU, AV.toU] at h
    cases hs : st.sto id with
    | none => simp [hs] at h
    | some b => cases b with
      | arr e z xs => exact live_arr hs
      | _ => simp [hs] at h
  | pe id' i p => simp [argU, AV.toU, AV.flat] at h
  | _ => simp [ownsOf] at hi
theorem ares_sound (ok : CtxOk P C) {f : Fr} (hf : FrOk f) {ι : Own} {st : St} {a : Act} {w : World} (s : Sim C f ι st a w) {V : View} (hH : (view f ι st.sto w).le V) {X : Nat → Prop} (hX : ∀ id b, live st.sto id → blkOf (ι id) = some b → f.w0.heap.size ≤ b ∨ f.O b) :
    ∀ (l : List ResultVar) (os : List (Option Bool)) (ts : List Nat) (us : List U) (g : Nat → U) (j : Nat), ares C st os ts (l.map (resAV C st)) = some us → distinct (selOwns true os (l.map (resAV C st))) = true →
    (∀ id ∈ selOwns false os (l.map (resAV C st)), live st.sto id → Shows ι w V id) → (∀ x ∈ l.map (resAV C st), ∀ id ∈ argIds st x, liveB st id = true → Shows ι w V id) → (∀ id ∈ selOwns true os (l.map (resAV C st)), live st.sto id → ∀ b, blkOf (ι id) = some b → X b) → (∀ i, i < us.length → g (j + i) = U.nth us i) →
    ∃ vs, (l.mapM (resRun a.tmps)).run P w = .ok vs w ∧ RetL C f w V X os ts g j vs ∧ us.length = ts.length ∧ vs.length = l.length ∧ ts.length = l.length ∧
      ∀ v ∈ ownVs os vs, ∀ b, blkOf v = some b → ∃ id ∈ selOwns true os (l.map (resAV C st)), live st.sto id ∧ blkOf (ι id) = some b
  | [], os, ts, us, g, j, h, _, _, _, _, _ => by
    cases ts with
    | nil => simp [ares] at h; subst h; exact ⟨[], by simp, trivial, rfl, rfl, rfl, by simp [ownVs]⟩
    | cons t ts => simp [ares] at h
  | r :: l, os, ts, us, g, j, h, hd, hs, ha, hx, hg => by
    cases ts with
    | nil => simp [ares] at h
    | cons t ts =>
      simp only [List.map_cons, ares] at h
      cases h1 : ares1 C st (hd0 os) t (resAV C st r) with
      | none => simp [h1] at h
      | some u =>
        cases h2 : ares C st os.tail ts (l.map (resAV C st)) with
        | none => simp [h1, h2] at h
        | some us' =>
          simp [h1, h2] at h; subst h
          simp only [List.map_cons, selOwns] at hd hs hx ⊢
          obtain ⟨hd1, hd2, hd3⟩ := distinct_append hd
          obtain ⟨vs, k1, k2, k3, k4, k5, k6⟩ := ares_sound ok hf s hH hX l os.tail ts us' g (j + 1) h2 hd2 (fun id hi => hs id (List.mem_append_right _ hi)) (fun x hx => ha x (List.mem_cons_of_mem _ hx)) (fun id hi => hx id (List.mem_append_right _ hi))
            (fun i hi => by have := hg (i + 1) (by simpa using hi); simpa [U.nth, Nat.add_assoc, Nat.add_comm 1 i] using this)
          have hj : resAV C st r ≠ .junk := by
            intro e
            rw [e] at h1
            cases ho : hd0 os <;> rw [ho] at h1 <;> simp [ares1, fitsArg, fitsT] at h1
          obtain ⟨q, q1, q2⟩ := res_one ok hf s r hj
          have q3 := ares1_sound ok s hH q2 h1 (fun e id hi => hs id (List.mem_append_left _ (by simp [e, hi])) (by
            rw [e] at h1
            simp only [ares1] at h1
            exact argU_live (cond_some h1).2 hi)) (ha _ (List.mem_cons_self ..))
          have hg0 : g j = u := by simpa [U.nth] using hg 0 (by simp)
          have hown : hd0 os ≠ none → ∀ b, blkOf q = some b → ∃ id ∈ (bif (hd0 os).isSome == true then ownsOf (resAV C st r) else []), live st.sto id ∧ blkOf (ι id) = some b := by
            intro hne b hb
            cases ho : hd0 os with
            | none => exact (hne ho).elim
            | some z =>
              rw [ho] at q3
              obtain ⟨e, _, _, _, q3⟩ := q3
              obtain ⟨id, i1, i2, i3⟩ := q3 b hb
              exact ⟨id, by simp [i1], i2, i3⟩
          refine ⟨q :: vs, by simp [q1, k1], ⟨?_, k2⟩, by simp [k3], by simp [k4], by simp [k5], ?_⟩
          · rw [hg0]
            refine q3.imp fun hne b hb _ => ?_
            obtain ⟨id, hm, i5, i6⟩ := hown hne b hb
            refine ⟨hx id (List.mem_append_left _ hm) i5 b i6, hX id b i5 i6, fun v' hv' e' => ?_⟩
            obtain ⟨id', j1, j2, j3⟩ := k6 v' hv' b e'
            exact hd3 id hm (s.inj id id' b i5 j2 i6 j3 ▸ j1)
          · intro v hv b hb
            simp only [ownVs, List.mem_append] at hv
            rcases hv with hv | hv
            · have : hd0 os ≠ none ∧ v = q := by
                cases ho : hd0 os with
                | none => rw [ho] at hv; simp at hv
                | some z => rw [ho] at hv; simp at hv; exact ⟨by simp, hv⟩
              obtain ⟨hne, rfl⟩ := this
              obtain ⟨id, i1, i2⟩ := hown hne b hb
              exact ⟨id, List.mem_append_left _ i1, i2⟩
            · obtain ⟨id, i1, i2⟩ := k6 v hv b hb
              exact ⟨id, List.mem_append_right _ i1, i2⟩

theorem run_results {fn : Func} {tmps : Array Value} {w : World} {vs : List Value} (h : (fn.results.toList.mapM (resRun tmps)).run P w = .ok vs w) : (results fn tmps).run P w = .ok (tupV vs) w := by
  have e : (fn.results.mapM (resRun tmps)).run P w = .ok vs.toArray w := by
    rw [Array.mapM_eq_mapM_toList]
    simp [h]
  have : results fn tmps = (do let vs ← fn.results.mapM (resRun tmps); pure (if h : vs.size = 1 then vs[0] else .tuple vs)) := by
    unfold results
    congr 1
  rw [this]
  simp only [Sem.run_bind, e, Result.andThen_ok, Sem.run_pure]
  congr 1
  match vs with
  | [] => rfl
  | [v] => rfl
  | v :: v' :: vs => simp [tupV]

theorem aresU_sound (ok : CtxOk P C) {f : Fr} (hf : FrOk f) {ι : Own} {st : St} {a : Act} {w : World} (s : Sim C f ι st a w) {fi : Fn} {fn : Func} (hr : fi.res = fn.results.toList) {u : U} (h : aresU C st fi = some u) :
    ∃ v, (results fn a.tmps).run P w = .ok v w ∧ RetOk C f fi u v w := by
  unfold aresU at h
  obtain ⟨hc, h⟩ := cond_some h
  obtain ⟨ho, hc⟩ := Bool.and_eq_true_iff.1 hc
  simp only [Bool.and_eq_true] at hc
  obtain ⟨hd, hn⟩ := hc
  have hn' : ∀ id ∈ selOwns false fi.out (fi.res.map (resAV C st)), id ∉ selOwns true fi.out (fi.res.map (resAV C st)) := by
    intro id h1 h2
    have := List.all_eq_true.1 hn id h1
    simp only [Bool.not_eq_true', List.any_eq_false, nbeq, decide_eq_true_eq] at this
    exact this id h2 rfl
  let X : Nat → Prop := fun b => ∃ id ∈ selOwns true fi.out (fi.res.map (resAV C st)), live st.sto id ∧ blkOf (ι id) = some b
  have hH : (view f ι st.sto w).le (retV f w X) := by
    intro b o v e
    unfold view at e
    unfold retV
    split at e
    · cases e
    · rename_i hl
      rw [if_neg (fun ⟨id, _, h1, h2⟩ => hl ⟨id, h1, h2⟩)]
      exact e
  have hRng : ∀ id b, live st.sto id → blkOf (ι id) = some b → f.w0.heap.size ≤ b ∨ f.O b := fun id b h1 h2 => s.rng id b h1 h2
  have hshow : ∀ id ∈ selOwns false fi.out (fi.res.map (resAV C st)), live st.sto id → Shows ι w (retV f w X) id := by
    intro id hi hl b o v hb hv
    unfold retV
    rw [if_neg, if_neg]
    · exact hv
    · rintro ⟨h1, h2⟩
      rcases hRng id b hl hb with h | h
      · omega
      · exact h2 h
    · rintro ⟨id', h1, h2, h3⟩
      have := s.inj id id' b hl h2 hb h3
      subst this
      exact hn' id hi h1
  have hselN : ∀ (os : List (Option Bool)) (xs : List AV), os.all Option.isNone = true → selOwns true os xs = [] := by
    intro os xs
    induction xs generalizing os with
    | nil => intro _; rfl
    | cons x xs ih =>
      intro h
      have h0 : (hd0 os).isSome = false := by
        cases os with
        | nil => rfl
        | cons o os => simp only [List.all_cons, Bool.and_eq_true] at h; cases o <;> simp_all [hd0]
      have h1 : os.tail.all Option.isNone = true := by
        cases os with
        | nil => rfl
        | cons o os => simp only [List.all_cons, Bool.and_eq_true] at h; exact h.2
      simp [selOwns, h0, ih _ h1]
  have hargs : ∀ x ∈ fi.res.map (resAV C st), ∀ id ∈ argIds st x, liveB st id = true → Shows ι w (retV f w X) id := by
    intro x hx id hi hl b o v hb hv
    have hl' : live st.sto id := by
      unfold liveB at hl
      unfold live
      split at hl <;> simp_all
    rcases Bool.or_eq_true_iff.1 ho with h | h
    · unfold retV
      rw [if_neg, if_neg]
      · exact hv
      · rintro ⟨h1, h2⟩
        rcases hRng id b hl' hb with h | h
        · omega
        · exact h2 h
      · rintro ⟨id', h1, _⟩
        rw [hselN _ _ h] at h1
        cases h1
    · have := List.all_eq_true.1 h x hx
      rw [argIds_none (by simpa using this)] at hi
      cases hi
  have key : ∀ us, ares C st fi.out fi.rts (fi.res.map (resAV C st)) = some us → ∀ g : Nat → U, (∀ i, i < us.length → g (0 + i) = U.nth us i) →
      ∃ vs, (results fn a.tmps).run P w = .ok (tupV vs) w ∧ RetL C f w (retV f w X) X fi.out fi.rts g 0 vs ∧ us.length = fi.rts.length := by
    intro us hus g hg
    obtain ⟨vs, k1, k2, k3, _⟩ := ares_sound ok hf s hH (X := X) hRng fi.res fi.out fi.rts us g 0 hus hd hshow hargs (fun id hi hl b hb => ⟨id, hi, hl, hb⟩) hg
    exact ⟨vs, run_results (by rw [← hr]; exact k1), k2, k3⟩
  cases hus : ares C st fi.out fi.rts (fi.res.map (resAV C st)) with
  | none => rw [hus] at h; simp at h
  | some us =>
    rw [hus] at h
    have hu : (∃ u', us = [u'] ∧ u = u') ∨ ((∀ u', us ≠ [u']) ∧ u = .ofL false us) := by
      match us, h with
      | [u'], h => simp at h; exact .inl ⟨u', rfl, h.symm⟩
      | [], h => simp at h; exact .inr ⟨by simp, h.symm⟩
      | _ :: _ :: _, h => simp at h; exact .inr ⟨by simp, h.symm⟩
    obtain ⟨vs, k1, k2, k3⟩ := key us hus (resG fi.rts u) (by
      rcases hu with ⟨u', rfl, rfl⟩ | ⟨h1, rfl⟩
      · intro i hi
        have := key [u] hus (fun i => U.nth [u] i) (by simp)
        obtain ⟨_, _, _, k3⟩ := this
        match hrt : fi.rts, k3 with
        | [t], _ =>
          simp at hi; subst hi
          rfl
      · intro i hi
        have := key us hus (fun i => U.nth us i) (by simp)
        obtain ⟨_, _, _, k3⟩ := this
        have : resG fi.rts (.ofL false us) = (U.ofL false us).get := by
          match hrt : fi.rts, k3 with
          | [], _ => rfl
          | [t], k3 => 
            match us, k3 with
            | [u'], _ => exact (h1 u' rfl).elim
          | _ :: _ :: _, _ => rfl
        rw [this]
        simp [get_ofL])
    exact ⟨_, k1, s.keep, X, vs, k2, rfl⟩

end Go.Ab
