/- Code, functions, and the fuel. -/
import Derived.Test.YtnahhhaicalmcaaDoorAbTpl
import Derived.Test.YtnahhhaicalmcaaDoorAbDraw4
import Derived.Test.YtnahhhaicalmcaaDoorAbIn
import Derived.Test.YtnahhhaicalmcaaDoorAbYield
set_option linter.unusedVariables false
set_option linter.unusedSimpArgs false
namespace Go.Ab
open Go.RowKit
variable {C : Ctx} {P : Program}

def Post {R : Type} (P : Program) (C : Ctx) (f : Fr) (fi : Fn) (fn : Func) (S : Nat → Prop) (a0 : Act) (Kr : U → Option R) (K : Ex → St → Option R) (r : R) : Exit → Act → World → Prop
  | .normal, a, w => ∃ ι st, Sim C f ι st a w ∧ K .n st = some r
  | .exit j, a, w => ∃ ι st, Sim C f ι st a w ∧ K (.x j) st = some r
  | .ret, a, w => ∃ u, LeavesInM (Rd none) 0 P fn a.tmps (Yields C f fi u S a0) a.defers .returning w ∧ Kr u = some r
  | _, _, _ => False
def LPost (P : Program) (C : Ctx) (f : Fr) (fi : Fn) (fn : Func) (S : Nat → Prop) (a0 : Act) (bid : Nat) (tu : Tpl) (o : LO) : Exit → Act → World → Prop
  | .exit j, a, w => j = bid ∧ ∃ q, o = .brk q ∧ ∃ ι, Sim C f ι (unpack tu q) a w
  | .ret, a, w => ∃ u, o = .ret u ∧ LeavesInM (Rd none) 0 P fn a.tmps (Yields C f fi u S a0) a.defers .returning w
  | _, _, _ => False
/-- where code stands: in a function's own frame, or in a round of a range over a function -/
def Stand (f : Fr) (rd : Option Nat) (c : Code) : Prop := (rd = none ∧ ∀ k o, ¬ f.kp k o) ∨ noDR c = true
theorem Stand.ops {f : Fr} {rd : Option Nat} {id : Nat} {ops : Array Oper} {draw : Bool} (h : Stand f rd (.region id ops draw)) : ∀ o ∈ ops.toList, noDefer rd o := fun o ho => by
  rcases h with ⟨h, _⟩ | h
  · exact .inl h
  · refine .inr fun c e => ?_
    have := List.all_eq_true.1 h o ho
    rw [e] at this
    cases this
theorem Stand.seq {f : Fr} {rd : Option Nat} {a b : Code} (h : Stand f rd (.seq a b)) : Stand f rd a ∧ Stand f rd b := by
  rcases h with h | h
  · exact ⟨.inl h, .inl h⟩
  · have := Bool.and_eq_true_iff.1 (show (noDR a && noDR b) = true from h)
    exact ⟨.inr this.1, .inr this.2⟩
theorem Stand.cond {f : Fr} {rd : Option Nat} {x : Operand} {a b : Code} (h : Stand f rd (.cond x a b)) : Stand f rd a ∧ Stand f rd b := by
  rcases h with h | h
  · exact ⟨.inl h, .inl h⟩
  · have := Bool.and_eq_true_iff.1 (show (noDR a && noDR b) = true from h)
    exact ⟨.inr this.1, .inr this.2⟩
theorem Stand.block {f : Fr} {rd : Option Nat} {id : Nat} {c : Code} (h : Stand f rd (.block id c)) : Stand f rd c := by
  rcases h with h | h
  · exact .inl h
  · exact .inr h
theorem Stand.loop {f : Fr} {rd : Option Nat} {c : Code} (h : Stand f rd (.loop c)) : Stand f rd c := by
  rcases h with h | h
  · exact .inl h
  · exact .inr h
/-- what is known of a loop -/
def LSpec0 (P : Program) (C : Ctx) (g bid : Nat) (c : Code) (p : JP) (o : LO) : Prop :=
  ∀ ti tu fi fn, C.loops g bid = some (ti, tu) → C.fx g = some fi → fi.res = fn.results.toList → ∀ (f : Fr) (ι : Own) (a : Act) (w : World) (rd : Option Nat) (S : Nat → Prop) (a0 : Act), FrOk f → Stand f rd (.loop c) → Clear S (.loop c) → Alike S a0 a → Sim C f ι (unpack ti p) a w → (Code.loop c).wpIn (Rd rd) 0 P (And' (LPost P C f fi fn S a0 bid tu o) S a0) a w
/-- how a range over a function is left -/
def RPost (C : Ctx) (f : Fr) (bid : Nat) (tu : Tpl) (o : LO) (ts : Array Value) : Exit → Act → World → Prop
  | .normal, a, w => a.tmps = ts ∧ ∃ q, o = .brk q ∧ (U.nth q.us 0).toB = false ∧ ∃ ι, Sim C f ι (unpack tu ⟨q.us.tail, q.ls⟩) a w
  | .exit j, a, w => a.tmps = ts ∧ j = bid ∧ ∃ q, o = .brk q ∧ (U.nth q.us 0).toB = true ∧ ∃ ι, Sim C f ι (unpack tu ⟨q.us.tail, q.ls⟩) a w
  | _, _, _ => False
/-- what is known of a range over a function -/
def RSpec (P : Program) (C : Ctx) (g bid : Nat) (fo : Operand) (ps : Array Tmp) (asg body : Code) (p : JP) (o : LO) : Prop :=
  ∀ ti tu fi (fn : Func), C.loops g bid = some (ti, tu) → C.fx g = some fi → fi.res = fn.results.toList → ∀ (f : Fr) (ι : Own) (st : St) (a : Act) (w : World) (us : List U) (ls : List (List U)) (items : List U) (fid : Nat) (lb : List Value) (ts : List Nat),
    p = ⟨.I fid :: us, items :: ls⟩ → FrOk f → (∀ k o, ¬ f.kp k o) → Sim C f ι st a w → pack C ti st = some ⟨us, ls⟩ → a.eval fo = .func (.func fid) #[] lb.toArray →
    rgOk ti tu ps asg body = true → C.iter fid = some ts → ts.length = ps.size → (∀ args w, (callFunc fid args).run P w = .ok (.enter fid args) w) → Iter P C (view f ι st.sto w) ts items fid lb →
    (Code.rangeFunc fo ps asg body).wpIn (Rd none) 0 P (RPost C f bid tu o a.tmps) a w
def LSpec (P : Program) (C : Ctx) (g bid : Nat) (c : Code) (p : JP) (o : LO) : Prop :=
  match c with
  | .rangeFunc fo ps asg body => RSpec P C g bid fo ps asg body p o
  | c => LSpec0 P C g bid c p o
theorem LSpec.plain {g bid : Nat} {c : Code} {p : JP} {o : LO} (h : LSpec P C g bid c p o) (hr : isRange c = false) : LSpec0 P C g bid c p o := by
  cases c <;> first | exact h | (cases hr)
/-- what an iterator's closure promises -/
def YSpec (P : Program) (C : Ctx) (g : Nat) (us items : List U) : Prop := ∀ fi ts, C.fn g = some fi → C.iter g = some ts → ∀ (H : View) (lb : List Value), CapsL C H fi.caps us lb →
    (∀ args w, (callFunc g args).run P w = .ok (.enter g args) w) ∧ Iter P C H ts items g lb

theorem fn_caps {H : View} {t : Nat} {v : Value} {u : U} {ps : List Nat} {r : Nat} (ht : C.te t = some (.fn ps r)) (h : Rep C H t [v] u) :
    ∃ fi lb, v = .func (.func u.fid) #[] lb.toArray ∧ C.fn u.fid = some fi ∧ CapsL C H fi.caps u.toL lb := by
  generalize hl : [v] = l at h
  cases h with
  | @fn _ _ _ _ fi ad cs h hf hp hr ho hu hln ha hc =>
    simp only [List.cons.injEq, and_true] at hl
    subst hl
    refine ⟨fi, _, rfl, hf, capsL_of (by simp) (by simp [U.toL, hln]) fun j hj => ?_⟩
    have e1 : U.nth u.toL j = u.get j := by simp [U.toL, nth_get, hln, hj]
    have e2 : ((List.range fi.caps.length).map fun j => Value.pointer (some (ad j))).getD j undef = .pointer (some (ad j)) := by
      simp [List.getD_eq_getElem?_getD, hj]
    rw [e1, e2]
    exact ⟨ad j, cs j, rfl, (ha j hj).1, (ha j hj).2, hc j hj⟩
  | _ => simp_all

theorem acodeK_sound (ok : CtxOk P C) (zok : ZeroOk P C) (lok : LimOk P C) {F : Nat → List U → Option U} {Y : Nat → List U → Option (List U)} {L : Nat → Code → JP → Option LO} {g : Nat} (hF : ∀ g us r, F g us = some r → Spec P C g us r) (hY : ∀ g us r, Y g us = some r → YSpec P C g us r) (hL : ∀ bid c p o, L bid c p = some o → LSpec P C g bid c p o)
    {f : Fr} {rd : Option Nat} {S : Nat → Prop} {a0 : Act} (hf : FrOk f) {fi : Fn} {fn : Func} (hfi : C.fx g = some fi) (hres : fi.res = fn.results.toList) :
    ∀ (c : Code) (bid : Nat) (R : Type) (st : St) (Kr : U → Option R) (K : Ex → St → Option R) (r : R) (ι : Own) (a : Act) (w : World), Stand f rd c → Clear S c → Alike S a0 a → acodeK C F Y L g fi c bid R st Kr K = some r → Sim C f ι st a w → c.wpIn (Rd rd) 0 P (And' (Post P C f fi fn S a0 Kr K r) S a0) a w := by
  have hout : ∀ {R : Type} {Kr : U → Option R} {K : Ex → St → Option R} {r : R}, ¬ LetsOut (Post P C f fi fn S a0 Kr K r) := fun ⟨_, _, h⟩ => h
  intro c
  induction c with
  | skip => intro bid R st Kr K r ι a w hs ho hk h s; simp only [acodeK] at h; exact wpIn_skip ⟨⟨ι, st, s, h⟩, hk⟩
  | seq x y ihx ihy =>
    intro bid R st Kr K r ι a w hs ho hk h s
    simp only [acodeK] at h
    refine wpIn_seq (wpIn_mono (ihx bid R st Kr _ r ι a w hs.seq.1 ho.seq.1 hk h s) ?_)
    intro e a' w' hq
    cases e with
    | normal => obtain ⟨⟨ι', st', s', h'⟩, hk'⟩ := hq; exact ihy bid R st' Kr K r ι' a' w' hs.seq.2 ho.seq.2 hk' h' s'
    | exit j => exact hq
    | ret => exact hq
    | _ => exact hq.1.elim
  | region id ops draw =>
    intro bid R st Kr K r ι a w hs ho hk h s
    simp only [acodeK] at h
    cases draw with
    | false =>
      simp only [cond_false] at h
      cases hsp : C.split g id with
      | false =>
        rw [hsp] at h
        exact wpIn_region_list (wpList_in (not_out hout) hs.ops (wpList_kept hout ho.ops hk (aopsK_sound ok zok lok hF hf (K := K .n) (r := r) (ds := a.defers) (fun a w ⟨ι, st, h1, h2, _⟩ => ⟨ι, st, h1, h2⟩) rfl s h)))
      | true =>
        rw [hsp] at h
        exact wpIn_region_list (wpList_in (not_out hout) hs.ops (wpList_kept hout ho.ops hk (aopsS_sound ok zok lok hF hf (K := K .n) (r := r) (ds := a.defers) (fun a w ⟨ι, st, h1, h2, _⟩ => ⟨ι, st, h1, h2⟩) rfl s.drop h)))
    | true =>
      cases hd : drawOk C st.drop ops.toList with
      | false => rw [hd] at h; simp at h
      | true =>
        rw [hd] at h
        simp only [cond_true] at h
        exact wpIn_region_any ok.mixed (wpAny_in (not_out hout) (fun i o hi => hs.ops o (List.mem_of_getElem? (by rw [Array.getElem?_toList]; exact hi))) (wpAny_kept hout (fun i o hi => ho.ops o (List.mem_of_getElem? (by rw [Array.getElem?_toList]; exact hi))) hk (draw_sound ok zok lok hF hf (id := id) (K := K .n) (r := r) (ds := a.defers) (fun a w ⟨ι, st, h1, h2, _⟩ => ⟨ι, st, h1, h2⟩) rfl s hd h)))
  | cond cnd x y ihx ihy =>
    intro bid R st Kr K r ι a w hs ho hk h s
    simp only [acodeK] at h
    cases hc : st.eval cnd with
    | b t =>
      rw [hc] at h
      simp only at h
      have he := s.eval cnd
      rw [hc] at he
      have he : a.eval cnd = .bool t := he
      refine wpIn_cond he ?_
      have plain : (bif t then acodeK C F Y L g fi x bid R st Kr K else acodeK C F Y L g fi y bid R st Kr K) = some r → (if t = true then x else y).wpIn (Rd rd) 0 P (And' (Post P C f fi fn S a0 Kr K r) S a0) a w := by
        intro h
        cases t with
        | true => exact ihx bid R st Kr K r ι a w hs.cond.1 ho.cond.1 hk h s
        | false => exact ihy bid R st Kr K r ι a w hs.cond.2 ho.cond.2 hk h s
      have join : ∀ tp, ((bif t then acodeK C F Y L g fi x bid LO st (fun u => some (.ret u)) (fun e st' => match e with | .n => (pack C tp st').map .brk | .x _ => none)
          else acodeK C F Y L g fi y bid LO st (fun u => some (.ret u)) (fun e st' => match e with | .n => (pack C tp st').map .brk | .x _ => none)).bind fun o => match o with
            | .brk q => K .n (unpack tp q)
            | .ret u => Kr u) = some r → (if t = true then x else y).wpIn (Rd rd) 0 P (And' (Post P C f fi fn S a0 Kr K r) S a0) a w := by
        intro tp h
        simp only [Option.bind_eq_some_iff] at h
        obtain ⟨o, hoo, h⟩ := h
        have key : (if t = true then x else y).wpIn (Rd rd) 0 P (And' (Post P C f fi fn S a0 (fun u => some (.ret u)) (fun e st' => match e with | .n => (pack C tp st').map .brk | .x _ => none) o) S a0) a w := by
          cases t with
          | true => exact ihx bid LO st _ _ o ι a w hs.cond.1 ho.cond.1 hk hoo s
          | false => exact ihy bid LO st _ _ o ι a w hs.cond.2 ho.cond.2 hk hoo s
        refine wpIn_mono key ?_
        intro e a' w' hq
        cases e with
        | normal =>
          obtain ⟨⟨ι', st', s', h'⟩, hk'⟩ := hq
          simp only [Option.map_eq_some_iff] at h'
          obtain ⟨q, hq, rfl⟩ := h'
          obtain ⟨ι2, s2⟩ := unpack_sound hf s' hq
          exact ⟨⟨ι2, _, s2, h⟩, hk'⟩
        | exit j =>
          obtain ⟨⟨ι', st', s', h'⟩, hk'⟩ := hq
          cases h'
        | ret =>
          obtain ⟨⟨u, h1, h4⟩, hk'⟩ := hq
          simp only [Option.some.injEq] at h4
          subst h4
          exact ⟨⟨u, h1, h⟩, hk'⟩
        | _ => exact hq.1.elim
      split at h
      · exact plain h
      · exact join _ h
    | _ => rw [hc] at h; simp at h
  | block id c ih =>
    intro bid R st Kr K r ι a w hs ho hk h s
    simp only [acodeK] at h
    refine wpIn_block (wpIn_mono (ih id R st Kr _ r ι a w hs.block ho hk h s) ?_)
    intro e a' w' hq
    cases e with
    | normal => exact hq
    | exit j =>
      obtain ⟨⟨ι', st', s', h'⟩, hk'⟩ := hq
      simp only [Exit.inBlock]
      simp only [nbeq] at h'
      by_cases hj : j = id
      · rw [if_pos hj]
        simp only [hj, decide_true, cond_true] at h'
        exact ⟨⟨ι', st', s', h'⟩, hk'⟩
      · rw [if_neg hj]
        simp only [hj, decide_false, cond_false] at h'
        exact ⟨⟨ι', st', s', h'⟩, hk'⟩
    | ret => exact hq
    | _ => exact hq.1.elim
  | loop c ih =>
    intro bid R st Kr K r ι a w hs ho hk h s
    simp only [acodeK] at h
    cases hrc : isRange c with
    | true => rw [hrc] at h; cases h
    | false =>
    rw [hrc] at h
    simp only [cond_false] at h
    cases hl : C.loops g bid with
    | none => rw [hl] at h; cases h
    | some tt =>
      obtain ⟨ti, tu⟩ := tt
      rw [hl] at h
      simp only at h
      cases hp : pack C ti st with
      | none => rw [hp] at h; cases h
      | some p =>
        rw [hp] at h
        simp only [Option.bind_eq_some_iff] at h
        obtain ⟨o, hoo, h⟩ := h
        obtain ⟨ι2, s2⟩ := unpack_sound hf s hp
        refine wpIn_mono ((hL bid c p o hoo).plain hrc ti tu fi fn hl hfi hres f ι2 a w rd S a0 hf hs ho hk s2) ?_
        intro e a' w' hq
        cases e with
        | exit j =>
          obtain ⟨⟨rfl, q, rfl, ι3, s3⟩, hk'⟩ := hq
          exact ⟨⟨ι3, _, s3, h⟩, hk'⟩
        | ret =>
          obtain ⟨⟨u, rfl, h1⟩, hk'⟩ := hq
          exact ⟨⟨u, h1, h⟩, hk'⟩
        | _ => exact hq.1.elim
  | rangeFunc fo ps asg body _ _ =>
    intro bid R st Kr K r ι a w hs ho hk h s
    simp only [acodeK] at h
    cases hfo : st.eval fo with
    | fn tf u =>
      rw [hfo] at h
      cases hl : C.loops g bid with
      | none => rw [hl] at h; cases h
      | some tt =>
        obtain ⟨ti, tu⟩ := tt
        rw [hl] at h
        simp only at h
        cases hp : pack C ti st with
        | none => rw [hp] at h; cases h
        | some p =>
            rw [hp] at h
            simp only at h
            obtain ⟨hrg, h⟩ := cond_some h
            simp only [Option.bind_eq_some_iff] at h
            obtain ⟨items, hri, o, hoo, h⟩ := h
            unfold rgItems at hri
            cases hit : C.iter u.fid with
            | none => rw [hit] at hri; cases hri
            | some ts =>
            rw [hit] at hri
            obtain ⟨hlen, hitems⟩ := cond_some hri
            have hlen := Nat.eq_of_beq_eq_true hlen
            have he := s.eval fo
            rw [hfo] at he
            obtain ⟨⟨_, _, hte⟩, hrep⟩ : (∃ ps r, C.te tf = some (.fn ps r)) ∧ Rep C (view f ι st.sto w) tf [a.eval fo] u := he
            obtain ⟨fi', lb, hv, hfi', hcaps⟩ := fn_caps hte hrep
            obtain ⟨eg, hI⟩ := hY _ _ _ hitems _ _ hfi' hit _ _ hcaps
            rcases hs with ⟨rfl, hkp⟩ | hs
            · refine wpIn_mono (hL bid _ _ o hoo ti tu fi fn hl hfi hres f ι st a w p.us p.ls items u.fid lb ts rfl hf hkp s hp hv hrg hit hlen eg hI) ?_
              intro e a' w' hq
              have hal : a'.tmps = a.tmps → Alike S a0 a' := fun h => ⟨by rw [h]; exact hk.1, fun t ht => by have := ho t ht; cases this⟩
              cases e with
              | normal => obtain ⟨ht, q, rfl, hb, ι3, s3⟩ := hq; simp only [hb, cond_false] at h; exact ⟨⟨ι3, _, s3, h⟩, hal ht⟩
              | exit j => obtain ⟨ht, rfl, q, rfl, hb, ι3, s3⟩ := hq; simp only [hb, cond_true] at h; exact ⟨⟨ι3, _, s3, h⟩, hal ht⟩
              | _ => exact hq.elim
            · cases hs
    | _ => rw [hfo] at h; simp at h
  | exit id => intro bid R st Kr K r ι a w hs ho hk h s; simp only [acodeK] at h; exact wpIn_exit ⟨⟨ι, st, s, h⟩, hk⟩
  | ret =>
    intro bid R st Kr K r ι a w hs ho hk h s
    simp only [acodeK] at h
    cases hu : aresX C st fi with
    | none => rw [hu] at h; cases h
    | some u =>
      rw [hu] at h
      rcases hs with ⟨_, hkp⟩ | hkp
      · exact wpIn_ret ⟨⟨u, ends ok hf hkp hres hu (fun t ht => hk.2 t ht) s, h⟩, hk⟩
      · cases hkp
  | _ => intro bid R st Kr K r ι a w hs ho hk h s; simp [acodeK] at h

/-- the program's functions as the tables have them -/
def FnOk (P : Program) (C : Ctx) : Prop := ∀ g fi, C.prim g = none → C.fx g = some fi → ∃ fn, P.funcs[g]? = some fn ∧ fn.body = some fi.body ∧ fi.res = fn.results.toList ∧ fi.ntmps = fn.ntmps ∧ fn.name ≠ "runtime.NumGoroutine"
/-- what is laid down by hand -/
def PrimOk (P : Program) (C : Ctx) : Prop := ∀ g h F us r, C.prim g = some h → (∀ g us r, F g us = some r → Spec P C g us r) → h F us = some r → Spec P C g us r

mutual
def E (C : Ctx) : Nat → Nat → List U → Option U
  | 0, _, _ => none
  | n + 1, g, us => match C.prim g with
    | some h => h (fun g us => E C n g us) us
    | none => match C.fn g with
      | some _ => afun C (fun g us => E C n g us) (fun g us => YE C n g us) (fun bid c p => LL C n g bid c p) g us
      | none => axfun C (fun g us => E C n g us) (fun g us => YE C n g us) (fun bid c p => LL C n g bid c p) g us
def LL (C : Ctx) : Nat → Nat → Nat → Code → JP → Option LO
  | 0, _, _, _, _ => none
  | n + 1, g, bid, c, p => around C (fun g us => E C n g us) (fun g us => YE C n g us) (fun bid c p => LL C n g bid c p) g bid c p
def YE (C : Ctx) : Nat → Nat → List U → Option (List U)
  | 0, _, _ => none
  | n + 1, g, us => match C.prim g with
    | some _ => none
    | none => yfun C (fun g us => E C n g us) (fun bid c p => YL C n g us bid c p) g us
def YL (C : Ctx) : Nat → Nat → List U → Nat → Code → JP → Option YR
  | 0, _, _, _, _, _ => none
  | n + 1, g, us, bid, c, p => yround C (fun g us => E C n g us) (fun bid c p => YL C n g us bid c p) g us bid c p
end

theorem afun_sound (ok : CtxOk P C) (zok : ZeroOk P C) (lok : LimOk P C) {F : Nat → List U → Option U} {Y : Nat → List U → Option (List U)} {L : Nat → Code → JP → Option LO} {g : Nat} (fok : ∀ fi, C.fn g = some fi → ∃ fn, P.funcs[g]? = some fn ∧ fn.body = some fi.body ∧ fi.res = fn.results.toList ∧ fi.ntmps = fn.ntmps ∧ fn.name ≠ "runtime.NumGoroutine") (hF : ∀ g us r, F g us = some r → Spec P C g us r) (hY : ∀ g us r, Y g us = some r → YSpec P C g us r) (hL : ∀ bid c p o, L bid c p = some o → LSpec P C g bid c p o)
    {us : List U} {r : U} (h : afun C F Y L g us = some r) : Spec P C g us r := by
  unfold afun at h
  cases hfi : C.fn g with
  | none => rw [hfi] at h; cases h
  | some fi =>
    rw [hfi] at h
    simp only at h
    obtain ⟨hxt, h⟩ := cond_some h
    obtain ⟨fn, f1, f2, f3, f4, f5⟩ := fok fi hfi
    have hxt : fi.xt = none := by
      simp only [Bool.and_eq_true, Option.isNone_iff_eq_none] at hxt
      exact hxt.2
    have hfx : C.fx g = some fi := by simp [Ctx.fx, hfi]
    refine .inl ⟨fi, hfi, fun f vs hf hkp hargs => .inl ⟨?_, ?_⟩⟩
    · simp [callFunc, f1, f2, f5]
    · obtain ⟨s, _⟩ := Sim.start (fi := fi) hf hkp hargs
      rw [f4] at s
      have key : Calls P g vs.toArray f.w0 (Yields C f fi r (fun _ => False) { tmps := vs.toArray ++ Array.replicate (fn.ntmps - vs.toArray.size) undef, defers := [] }) := by
        refine callsIn_rd.1 (callsIn_of_wp_marks (F := Rd none) (n := 0) f1 f2 trivial (wpIn_mono (acodeK_sound ok zok lok hF hY hL hf hfx f3 fi.body 0 U (st0 C fi us) _ _ r _ _ _ (.inl ⟨rfl, hkp⟩) (S := fun _ => False) (a0 := { tmps := vs.toArray ++ Array.replicate (fn.ntmps - vs.toArray.size) undef, defers := [] }) (fun _ h => h.elim) ⟨rfl, fun _ h => h.elim⟩ h (by simpa using s)) ?_) rfl)
        intro e a w hq
        cases e with
        | normal =>
          obtain ⟨⟨ι', st', s', h'⟩, _⟩ := hq
          exact ends ok hf hkp f3 h' (fun _ h => h.elim) s'
        | exit j => obtain ⟨⟨ι', st', s', h'⟩, _⟩ := hq; cases h'
        | ret =>
          obtain ⟨⟨u, h1, h4⟩, _⟩ := hq
          cases h4
          exact h1
        | _ => exact hq.1.elim
      refine key.mono fun e w h => ?_
      cases e with
      | returned v =>
        obtain ⟨tm, _, h⟩ := h
        unfold Ends at h
        rw [hxt] at h
        exact h
      | _ => exact h
/-- a function that works on the caller's memory -/
theorem axfun_sound (ok : CtxOk P C) (zok : ZeroOk P C) (lok : LimOk P C) {F : Nat → List U → Option U} {Y : Nat → List U → Option (List U)} {L : Nat → Code → JP → Option LO} {g : Nat} (hno : C.fn g = none) (fok : ∀ fi, C.fx g = some fi → ∃ fn, P.funcs[g]? = some fn ∧ fn.body = some fi.body ∧ fi.res = fn.results.toList ∧ fi.ntmps = fn.ntmps ∧ fn.name ≠ "runtime.NumGoroutine") (hF : ∀ g us r, F g us = some r → Spec P C g us r) (hY : ∀ g us r, Y g us = some r → YSpec P C g us r) (hL : ∀ bid c p o, L bid c p = some o → LSpec P C g bid c p o)
    {us : List U} {r : U} (h : axfun C F Y L g us = some r) : Spec P C g us r := by
  unfold axfun at h
  cases hfi : C.xfn g with
  | none => rw [hfi] at h; cases h
  | some fi =>
    rw [hfi] at h
    simp only at h
    cases hxt : fi.xt with
    | none => rw [hxt] at h; cases h
    | some tt =>
      obtain ⟨ti, tu⟩ := tt
      rw [hxt] at h
      simp only at h
      obtain ⟨hc, h⟩ := cond_some h
      simp only [Bool.and_eq_true, nbeq, decide_eq_true_eq, List.all_eq_true, Bool.not_eq_true'] at hc
      obtain ⟨hn, hsl⟩ := hc
      have hfx : C.fx g = some fi := by simp [Ctx.fx, hno, hfi]
      obtain ⟨fn, f1, f2, f3, f4, f5⟩ := fok fi hfx
      refine .inr ⟨hno, fi, hfi, fun ti' tu' hxt' f vs ι hf hkp hlen s => .inl ⟨?_, ?_⟩⟩
      · simp [callFunc, f1, f2, f5]
      · rw [hxt] at hxt'
        cases hxt'
        let S : Nat → Prop := fun t => t ∈ tu.slots.map (·.1)
        have hS : ∀ t, S t → t < vs.length ∧ wrC fi.body t = false := by
          intro t ht
          obtain ⟨q, hq, rfl⟩ := List.mem_map.1 ht
          obtain ⟨h1, h2⟩ := hsl q hq
          exact ⟨by omega, h2⟩
        have ha : act0 fi.ntmps vs = { tmps := vs.toArray ++ Array.replicate (fn.ntmps - vs.toArray.size) undef, defers := [] } := by simp [act0, f4]
        have key : Calls P g vs.toArray f.w0 (Yields C f fi r S (act0 fi.ntmps vs)) := by
          refine callsIn_rd.1 (callsIn_of_wp_marks (F := Rd none) (n := 0) f1 f2 trivial (wpIn_mono (acodeK_sound ok zok lok hF hY hL hf hfx f3 fi.body 0 U (unpack ti (decJ us)) _ _ r _ _ _ (.inl ⟨rfl, hkp⟩) (S := S) (a0 := act0 fi.ntmps vs) (fun t ht => (hS t ht).2) (by rw [ha]; exact ⟨rfl, fun _ _ => rfl⟩) h (by rw [← ha]; exact s)) ?_) rfl)
          intro e a w hq
          cases e with
          | normal =>
            obtain ⟨⟨ι', st', s', h'⟩, hk⟩ := hq
            exact ends ok hf hkp f3 h' (fun t ht => hk.2 t ht) s'
          | exit j => obtain ⟨⟨ι', st', s', h'⟩, _⟩ := hq; cases h'
          | ret =>
            obtain ⟨⟨u, h1, h4⟩, _⟩ := hq
            cases h4
            exact h1
          | _ => exact hq.1.elim
        refine key.mono fun e w h => ?_
        cases e with
        | returned v =>
          obtain ⟨tm, h1, h⟩ := h
          unfold Ends at h
          rw [hxt] at h
          obtain ⟨ι', s', hr⟩ := h
          refine ⟨ι', tm, fun j hj => ?_, s', hr⟩
          rw [h1 j hj]
          have hjl := (hS j hj).1
          show (vs.toArray ++ Array.replicate (fi.ntmps - vs.length) undef).getD j undef = _
          rw [Array.getD_eq_getD_getElem?, ← Array.getElem?_toList]
          simp only [Array.toList_append, List.getElem?_append_left hjl]
          simp [List.getD_eq_getElem?_getD]
        | _ => exact h

theorem putAll_sound {f : Fr} {ι : Own} {w : World} {x : U} {H : View} : ∀ {ps : List Tmp} {ts : List Nat} {vs : List Value} {n : Nat} {st : St} {a : Act}, Sim C f ι st a w → H.le (view f ι st.sto w) → ps.length = ts.length → vs.length = ts.length →
    (∀ j, j < ts.length → ∃ cs, IsVal C (nthN ts j) (vs.getD j undef) cs ∧ Rep C H (nthN ts j) cs (x.get (n + j))) →
    Sim C f ι (putAll C ps ts x n st) { a with tmps := (ps.zip vs).foldl (fun t (p, v) => t.setIfInBounds p v) a.tmps } w ∧ (putAll C ps ts x n st).sto = st.sto
  | [], [], _, _, _, _, s, _, _, _, _ => by simpa [putAll] using s
  | p :: ps, t :: ts, v :: vs, n, st, a, s, hH, h1, h2, h => by
    obtain ⟨cs, k1, k2⟩ := h 0 (by simp)
    have s' : Sim C f ι (st.put (some p) (ofU C t (x.get n))) (a.put (some p) v) w := s.put (some p) fun _ _ _ => .of ((k2.mono hH).ofU k1)
    have := putAll_sound (ps := ps) (ts := ts) (vs := vs) (n := n + 1) s' hH (by simpa using h1) (by simpa using h2) (fun j hj => by
      obtain ⟨cs, k1, k2⟩ := h (j + 1) (by simpa using hj)
      exact ⟨cs, by simpa [nthN] using k1, by simpa [nthN, Nat.add_assoc, Nat.add_comm 1 j] using k2⟩)
    simpa [putAll, Act.put, St.put] using this
  | [], _ :: _, _, _, _, _, _, _, h, _, _ => by simp at h
  | _ :: _, [], _, _, _, _, _, _, h, _, _ => by simp at h
  | _ :: _, _ :: _, [], _, _, _, _, _, _, h, _ => by simp at h
theorem foldl_tm {p : Nat → Prop} : ∀ {l : List (Tmp × Value)} {ts : Array Value}, (∀ q ∈ l, ¬ p q.1) → (l.foldl (fun t (p, v) => t.setIfInBounds p v) ts).size = ts.size ∧ ∀ t, p t → (l.foldl (fun t (p, v) => t.setIfInBounds p v) ts).getD t undef = ts.getD t undef
  | [], _, _ => ⟨rfl, fun _ _ => rfl⟩
  | (d, v) :: l, ts, h => by
    obtain ⟨h1, h2⟩ := foldl_tm (p := p) (l := l) (ts := ts.setIfInBounds d v) (fun q hq => h q (List.mem_cons_of_mem _ hq))
    refine ⟨by simpa using h1, fun t ht => ?_⟩
    have hne : d ≠ t := fun e => h (d, v) (List.mem_cons_self ..) (e ▸ ht)
    rw [List.foldl_cons, h2 t ht]
    simp [Array.getD_eq_getD_getElem?, Array.getElem?_setIfInBounds, hne]
theorem H_view {f : Fr} (hf : FrOk f) {ι : Own} {st : St} {a : Act} {w : World} (s : Sim C f ι st a w) : f.H.le (view f ι st.sto w) := by
  intro b o v e
  have hlt : b < f.w0.heap.size := World.block_lt_of_cell? f.w0 _ (hf.le b o v e)
  have hO : ¬ f.O b := fun h => by rw [hf.own b o h] at e; cases e
  unfold view
  rw [if_neg, if_pos ⟨hlt, hO⟩]
  · exact e
  · rintro ⟨id, h1, h2⟩
    rcases s.rng id b h1 h2 with h | h
    · omega
    · exact hO h
/-- what else is named of the frame -/
theorem Sim.kp {f0 : Fr} {ι0 : Own} {S0 : Sto} {w0 : World} {kp kp' : Nat → Obj → Prop} {ι : Own} {st : St} {a : Act} {w : World} (s : Sim C (based f0 ι0 S0 w0 kp) ι st a w) (h : ∀ k o, kp' k o → w.heap[k]? = some o) : Sim C (based f0 ι0 S0 w0 kp') ι st a w :=
  ⟨s.env, s.size, s.blk, s.inj, s.rng, s.keep, h, s.defers⟩
theorem Marks.loop {b0 : Nat} {w : World} {l : Nat} {r r' : Loop} (h : w.heap[l]? = some (.loop r)) : ∀ {ds : List Deferred}, Marks b0 w ds → Marks b0 (w.putObj l (.loop r')) ds
  | [], _ => trivial
  | d :: ds, ⟨⟨D, h1, h2, h3, h4⟩, k⟩ => ⟨⟨D, h1, h2, by
      rw [World.putObj_heap_other (fun e => by rw [e, h] at h3; cases h3)]; exact h3, h4⟩, Marks.loop h k⟩

theorem range_sound (ok : CtxOk P C) (zok : ZeroOk P C) (lok : LimOk P C) {n : Nat} (ih : ∀ m, m < n → (∀ g us r, E C m g us = some r → Spec P C g us r) ∧ (∀ g us r, YE C m g us = some r → YSpec P C g us r) ∧ ∀ g bid c p o, LL C m g bid c p = some o → LSpec P C g bid c p o)
    {g bid : Nat} {fo : Operand} {ps : Array Tmp} {asg body : Code} {p : JP} {o : LO} (h : LL C n g bid (.rangeFunc fo ps asg body) p = some o) : RSpec P C g bid fo ps asg body p o := by
  intro ti tu fi fn hl hfi hres f ι st a w us ls items fid lb ts hp hf hkp s hpk he hrg hitr hlen eg hI
  subst hp
  simp only [rgOk, Bool.and_eq_true, List.all_eq_true, Bool.not_eq_true', List.any_eq_false, nbeq, decide_eq_true_eq] at hrg
  obtain ⟨⟨ndA, ndB⟩, hslots⟩ := hrg
  let f1 := fun kp => based f ι st.sto w kp
  have hf1 : ∀ kp, (∀ k o, kp k o → ownable o = false) → FrOk (f1 kp) := fun kp hk => based_ok hf s hk
  let K0 : Nat → Obj → Prop := fun _ _ => False
  have hf0 : FrOk (f1 K0) := hf1 K0 (fun _ _ h => h.elim)
  let aa : Act := { a with defers := [] }
  have s' : Sim C f ι st aa w := ⟨s.env, s.size, s.blk, s.inj, s.rng, s.keep, s.oth, trivial⟩
  have s1 : Sim C (f1 K0) ι st aa w := s'.base (fun _ _ h => h.elim) rfl
  obtain ⟨ι0, s2⟩ := unpack_sound hf0 s1 hpk
  -- what the slots of the templates are
  let S : Nat → Prop := fun t => t ∈ ti.slots.map (·.1) ∨ t ∈ tu.slots.map (·.1)
  have hS : ∀ t, S t → (∀ x ∈ ps.toList, x ≠ t) ∧ wrC asg t = false ∧ wrC body t = false := by
    intro t ht
    have : ∃ q ∈ ti.slots ++ tu.slots, q.1 = t := by
      rcases ht with ht | ht <;> obtain ⟨q, hq, rfl⟩ := List.mem_map.1 ht
      · exact ⟨q, List.mem_append_left _ hq, rfl⟩
      · exact ⟨q, List.mem_append_right _ hq, rfl⟩
    obtain ⟨q, hq, rfl⟩ := this
    obtain ⟨⟨h1, h2⟩, h3⟩ := hslots q hq
    exact ⟨fun x hx e => h1 x hx e, h2, h3⟩
  let I : Nat → World → Prop := fun k W => ∃ m p ι', m ≤ n ∧ LL C m g bid (.rangeFunc fo ps asg body) ⟨.I fid :: p.us, items.drop k :: p.ls⟩ = some o ∧ Sim C (f1 K0) ι' (unpack ti p) aa W
  let Ix : Nat → World → Prop := fun id W => id = bid ∧ ∃ q ι', o = .brk ⟨.B true :: q.us, q.ls⟩ ∧ Sim C (f1 K0) ι' (unpack tu q) aa W
  have hback : ∀ {tp : Tpl} {q : JP} {ι' : Own} {W : World}, Sim C (f1 K0) ι' (unpack tp q) aa W → W.heap[w.heap.size]? = some (.deferred (some [])) →
      Sim C f ι' (unpack tp q) { a with defers := { target := .collected w.heap.size, args := #[] } :: a.defers } W := by
    intro tp q ι' W s3 hD
    have hN : ∀ (k : Nat) (o : Obj), w.heap[k]? = some o → ownable o = false → W.heap[k]? = some o := fun k o h1 h2 => by
      rw [s3.keep.block k (Array.getElem?_eq_some_iff.1 h1).1 ?_]
      · exact h1
      · rintro ⟨id, hlv, hb⟩
        obtain ⟨o', h3, h4⟩ := (s.blk id).cells hlv hb
        rw [h1] at h3
        cases h3
        rw [h2] at h4
        cases h4
    refine s'.back s3 (fun k o h => (hkp k o h).elim) ⟨⟨w.heap.size, rfl, s.keep.size, hD, fun D' hm e => ?_⟩, Marks.mono hN s.defers⟩
    have : ∀ {ds : List Deferred}, Marks f.w0.heap.size w ds → ({ target := .collected D', args := #[] } : Deferred) ∈ ds → D' < w.heap.size := by
      intro ds
      induction ds with
      | nil => intro _ h; cases h
      | cons d ds ih =>
        rintro ⟨⟨D, h1, h2, h3, _⟩, k⟩ hm
        rcases List.mem_cons.1 hm with e | hm
        · rw [h1] at e
          simp only [Deferred.mk.injEq, Target.collected.injEq, and_true] at e
          rw [e]
          exact (Array.getElem?_eq_some_iff.1 h3).1
        · exact ih k hm
    have := this s.defers hm
    omega
  refine range_law (H := view f ι st.sto w) (ts := ts) (items := items) he eg hI hlen.symm I Ix ?_ ?_ ?_ ?_ ?_ ?_ ⟨n, ⟨us, ls⟩, ι0, Nat.le_refl _, by simpa using h, s2⟩ ?_ ?_ ?_
  · rintro k A B ⟨m, p, ι', h1, h2, h3⟩ hab
    exact ⟨m, p, ι', h1, h2, (Sim.grow hf0 h3 hab).1⟩
  · rintro k A B ⟨h1, q, ι', h2, h3⟩ hab
    exact ⟨h1, q, ι', h2, (Sim.grow hf0 h3 hab).1⟩
  · rintro k A ⟨m, p, ι', h1, h2, h3⟩
    exact (H_view hf0 h3).trans (h3.vle hf0)
  · rintro k A ⟨h1, q, ι', h2, h3⟩
    exact (H_view hf0 h3).trans (h3.vle hf0)
  · rintro k A l r r' ⟨m, p, ι', h1, h2, h3⟩ hle hA
    exact ⟨m, p, ι', h1, h2, Sim.other (ds := []) h3 hle hA rfl rfl (fun _ h => h.elim) trivial⟩
  · rintro k A l r r' ⟨h1, q, ι', h2, h3⟩ hle hA
    exact ⟨h1, q, ι', h2, Sim.other (ds := []) h3 hle hA rfl rfl (fun _ h => h.elim) trivial⟩
  · rintro k x vs W0 W r r' hx hy ⟨m, p, ι', hm, hLL, s30⟩ hab hL hD
    obtain ⟨s3, _⟩ := Sim.grow hf0 s30 hab
    have hdrop : items.drop k = x :: items.drop (k + 1) := by
      obtain ⟨hk, hk2⟩ := List.getElem?_eq_some_iff.1 hx
      rw [List.drop_eq_getElem_cons hk, hk2]
    cases m with
    | zero => simp [LL] at hLL
    | succ m =>
    rw [hdrop] at hLL
    simp only [LL, around, hfi, hl, U.nth, U.toI, Int.toNat_natCast, hitr] at hLL
    obtain ⟨hE, hYm, hLm⟩ := ih m (by omega)
    let KA : Nat → Obj → Prop := fun k o => (k = w.heap.size + 1 ∧ o = .loop r) ∨ (k = w.heap.size ∧ o = .deferred (some []))
    let KB : Nat → Obj → Prop := fun k o => (k = w.heap.size + 1 ∧ o = .loop r') ∨ (k = w.heap.size ∧ o = .deferred (some []))
    let KD : Nat → Obj → Prop := fun k o => k = w.heap.size ∧ o = .deferred (some [])
    have hfA : FrOk (f1 KA) := hf1 KA (by rintro k o (⟨_, rfl⟩ | ⟨_, rfl⟩) <;> rfl)
    have hfB : FrOk (f1 KB) := hf1 KB (by rintro k o (⟨_, rfl⟩ | ⟨_, rfl⟩) <;> rfl)
    have sA : Sim C (f1 KA) ι' (unpack ti p) aa W := s3.kp (by rintro k o (⟨rfl, rfl⟩ | ⟨rfl, rfl⟩) <;> assumption)
    have hup : (upV (view f ι st.sto w) W0 W).le (view (f1 KA) ι' (unpack ti p).sto W) := by
      intro b o v e
      unfold upV at e
      split at e
      · exact H_view hfA sA b o v e
      · rename_i hb
        unfold view
        rw [if_neg, if_neg]
        · exact e
        · rintro ⟨h1, _⟩
          have := s30.keep.size
          exact hb (Nat.lt_of_lt_of_le h1 this)
        · rintro ⟨id, h1, h2⟩
          exact hb ((s30.blk id).lt h1 h2)
    obtain ⟨sP, _⟩ := putAll_sound (ps := ps.toList) (ts := ts) (vs := vs) (n := 0) (x := x) sA hup (by simpa using hlen.symm) hy.1 (fun j hj => by rw [Nat.zero_add]; exact hy.2 j hj)
    have ez : (ps.zip vs.toArray).foldl (fun t (p, v) => t.setIfInBounds p v) a.tmps = (ps.toList.zip vs).foldl (fun t (p, v) => t.setIfInBounds p v) a.tmps := by
      rw [← Array.foldl_toList]; simp
    rw [ez]
    obtain ⟨st0, hst0⟩ : ∃ b : Act, b = { tmps := (ps.toList.zip vs).foldl (fun t (p, v) => t.setIfInBounds p v) a.tmps, defers := [] } := ⟨_, rfl⟩
    have hal0 : Alike S aa st0 := by
      subst hst0
      have := foldl_tm (p := S) (l := ps.toList.zip vs) (ts := a.tmps) (fun q hq hs => (hS q.1 hs).1 q.1 (List.of_mem_zip hq).1 rfl)
      exact ⟨this.1, fun t ht => this.2 t ht⟩
    rw [← hst0]
    have sP' : Sim C (f1 KA) ι' (putAll C ps.toList ts x 0 (unpack ti p)) st0 W := by rw [hst0]; exact sP
    refine wpIn_mono (acodeK_sound ok zok lok (g := g) (fun g us r h => hE g us r h) (fun g us r h => hYm g us r h) (fun bid c p o h => hLm g bid c p o h) hfA hfi hres asg bid LO _ _ _ o ι' st0 W (rd := some (w.heap.size + 1)) (S := S) (a0 := st0) (.inr ndA) (fun t ht => (hS t ht).2.1) (Alike.refl _ _) hLL sP') ?_
    intro e a1 W1 hq
    cases e with
    | normal =>
      obtain ⟨⟨ι4, st4, s4, h4⟩, hk4⟩ := hq
      have hL4 : W1.heap[w.heap.size + 1]? = some (.loop r) := s4.oth _ _ (.inl ⟨rfl, rfl⟩)
      have hD4 : W1.heap[w.heap.size]? = some (.deferred (some [])) := s4.oth _ _ (.inr ⟨rfl, rfl⟩)
      refine ⟨hL4, ?_⟩
      simp only at h4
      have s5 : Sim C (f1 KD) ι4 st4 a1 W1 := s4.kp (by rintro k o ⟨rfl, rfl⟩; exact hD4)
      have s6 : Sim C (f1 KD) ι4 st4 a1 (W1.putObj (w.heap.size + 1) (.loop r')) :=
        Sim.other (ds := a1.defers) s5 (show w.heap.size ≤ w.heap.size + 1 by omega) hL4 rfl rfl (fun x h => by have := h.1; omega) (Marks.loop hL4 s5.defers)
      have s7 : Sim C (f1 KB) ι4 st4 a1 (W1.putObj (w.heap.size + 1) (.loop r')) := s6.kp (by
        rintro k o (⟨rfl, rfl⟩ | ⟨rfl, rfl⟩)
        · exact World.putObj_heap_same (Array.getElem?_eq_some_iff.1 hL4).1
        · exact (World.putObj_heap_other (by omega)).trans hD4)
      refine wpIn_mono (acodeK_sound ok zok lok (g := g) (fun g us r h => hE g us r h) (fun g us r h => hYm g us r h) (fun bid c p o h => hLm g bid c p o h) hfB hfi hres body bid LO _ _ _ o ι4 a1 _ (rd := some (w.heap.size + 1)) (S := S) (a0 := a1) (.inr ndB) (fun t ht => (hS t ht).2.2) (Alike.refl _ _) h4 s7) ?_
      intro e a3 W3 hq
      have fin : ∀ {tp : Tpl} {q : JP} {ι' : Own}, (∀ t, t ∈ tp.slots.map (·.1) → S t) → Alike S a1 a3 → Sim C (f1 KB) ι' (unpack tp q) a3 W3 → Sim C (f1 K0) ι' (unpack tp q) aa W3 := by
        intro tp q ι' hsub hk3 sq
        have hal : Alike S aa a3 := (hal0.trans hk4).trans hk3
        exact (sq.kp (kp' := K0) (fun _ _ h => h.elim)).act hal.1.symm (fun t ht => (hal.2 t (hsub t ht)).symm) trivial
      cases e with
      | normal =>
        obtain ⟨⟨ι8, st8, s8, h8⟩, hk8⟩ := hq
        simp only at h8
        cases hp8 : pack C ti st8 with
        | none => rw [hp8] at h8; cases h8
        | some p8 =>
          rw [hp8] at h8
          obtain ⟨ι9, s9⟩ := unpack_sound hfB s8 hp8
          exact ⟨s8.oth _ _ (.inl ⟨rfl, rfl⟩), s8.oth _ _ (.inr ⟨rfl, rfl⟩), m, p8, ι9, by omega, h8, fin (fun t ht => .inl ht) hk8 s9⟩
      | exit j =>
        obtain ⟨⟨ι8, st8, s8, h8⟩, hk8⟩ := hq
        simp only [nbeq] at h8
        obtain ⟨hj, h8⟩ := cond_some h8
        simp only [decide_eq_true_eq] at hj
        simp only [Option.map_eq_some_iff] at h8
        obtain ⟨q, hq8, rfl⟩ := h8
        obtain ⟨ι9, s9⟩ := unpack_sound hfB s8 hq8
        exact ⟨s8.oth _ _ (.inl ⟨rfl, rfl⟩), s8.oth _ _ (.inr ⟨rfl, rfl⟩), hj, q, ι9, rfl, fin (fun t ht => .inr ht) hk8 s9⟩
      | ret => obtain ⟨⟨u, _, h4⟩, _⟩ := hq; cases h4
      | _ => exact hq.1.elim
    | exit j => obtain ⟨⟨ι4, st4, s4, h4⟩, hk4⟩ := hq; cases h4
    | ret => obtain ⟨⟨u, _, h4⟩, _⟩ := hq; cases h4
    | _ => exact hq.1.elim
  · rintro W ⟨m, p, ι', hm, hLL, s3⟩ hD
    cases m with
    | zero => simp [LL] at hLL
    | succ m =>
    rw [List.drop_length] at hLL
    simp only [LL, around, hfi, hl, U.nth, U.toI, Int.toNat_natCast, hitr, Option.map_eq_some_iff] at hLL
    obtain ⟨q, hq, rfl⟩ := hLL
    obtain ⟨ι9, s9⟩ := unpack_sound hf0 s3 hq
    exact ⟨rfl, _, rfl, rfl, ι9, hback s9 hD⟩
  · rintro id W ⟨rfl, q, ι', rfl, s3⟩ hD
    exact ⟨rfl, rfl, _, rfl, rfl, ι', hback s3 hD⟩

theorem yfun_sound (ok : CtxOk P C) (zok : ZeroOk P C) (lok : LimOk P C) {F : Nat → List U → Option U} {L : Nat → Code → JP → Option YR} {g : Nat} (fok : ∀ fi, C.fn g = some fi → ∃ fn, P.funcs[g]? = some fn ∧ fn.body = some fi.body ∧ fi.res = fn.results.toList ∧ fi.ntmps = fn.ntmps ∧ fn.name ≠ "runtime.NumGoroutine") (hF : ∀ g us r, F g us = some r → Spec P C g us r)
    {us items : List U} (hL : ∀ (y : Yi) fi, C.fn g = some fi → C.iter g = some y.ts → y.us = us → YOk P C y fi → ∀ bid c p r, L bid c p = some r → YLSpec P C y fi g bid c p r) (h : yfun C F L g us = some items) : YSpec P C g us items := by
  intro fi ts hfi hts H lb hcaps
  unfold yfun at h
  rw [hfi, hts] at h
  simp only at h
  obtain ⟨hc, h⟩ := cond_some h
  simp only [Bool.and_eq_true, nbeq, decide_eq_true_eq, List.all_eq_true, List.mem_range, Bool.not_eq_true', List.isEmpty_iff] at hc
  obtain ⟨⟨⟨hc1, hc2⟩, hc3⟩, hc4⟩ := hc
  unfold yfK at h
  simp only [Option.bind_eq_some_iff] at h
  obtain ⟨r, hr, h⟩ := h
  cases ho : r.out with
  | some q => rw [ho] at h; cases h
  | none =>
    rw [ho] at h
    simp only [Option.some.injEq] at h
    obtain ⟨fn, f1, f2, f3, f4, f5⟩ := fok fi hfi
    refine ⟨fun args w => by simp [callFunc, f1, f2, f5], ?_⟩
    intro l J Jx W hJ hJx hH hHx hround h0
    let y : Yi := ⟨l, H, J, Jx, items, ts, us, lb⟩
    have yo : YOk P C y fi := ⟨hc2, hJ, hJx, hH, hHx, hround, hcaps⟩
    have hll := (capsL_len hcaps)
    have hclear : Clear (S0 fi) fi.body := fun t ht => hc4 t ht
    refine callsIn_of_wp (F := Rd none) (n := 0) f1 f2 trivial ?_ rfl
    have hargs : (#[.func (.yield l) #[] #[]] ++ lb.toArray : Array Value) = (.func (.yield l) #[] #[] :: lb).toArray := by simp
    rw [hargs]
    obtain ⟨a, ha⟩ : ∃ a : Act, a = { tmps := (.func (.yield l) #[] #[] :: lb).toArray ++ Array.replicate (fn.ntmps - ((.func (.yield l) #[] #[] :: lb).toArray : Array Value).size) undef, defers := [] } := ⟨_, rfl⟩
    rw [← ha]
    have htm : ∀ t, tmOf a t = if t < 1 + lb.length then (.func (.yield l) #[] #[] :: lb).getD t undef else undef := by
      intro t
      rw [ha]
      simp only [tmOf, Array.getD_eq_getD_getElem?, Array.getElem?_append, List.size_toArray, List.length_cons]
      by_cases h1 : t < lb.length + 1
      · rw [if_pos h1, if_pos (by omega)]; simp [List.getD_eq_getElem?_getD]
      · rw [if_neg h1, if_neg (by omega), Array.getElem?_replicate]
        split <;> rfl
    have hA : AInv y a := by
      refine ⟨by rw [ha], by rw [htm]; simp [Yi.yv, y], fun j hj => ?_⟩
      have hj : j < lb.length := hj
      rw [htm, if_pos (by omega), show 1 + j = j + 1 by omega]
      simp [y]
    have hle := hH 0 W h0
    have s : Sim C (itFr H W) (fun _ => undef) (yst0 fi us) a W := by
      have hv : H.le (view (itFr H W) (fun _ => undef) (fun _ => none) W) := by
        intro b o v e
        have hlt : b < W.heap.size := World.block_lt_of_cell? W _ (hle b o v e)
        unfold view
        rw [if_neg (by rintro ⟨id, h, _⟩; exact h), if_pos ⟨hlt, fun h => h⟩]
        exact e
      obtain ⟨e1, e2, e3, e4⟩ := envC_rep (V := view (itFr H W) (fun _ => undef) (fun _ => none) W) hv (ι := fun _ => undef) (S := fun _ => none) hcaps
      refine ⟨fun t => .of ?_, ?_, fun id => trivial, fun id id' g h => h.elim, fun id g h => h.elim, ⟨rfl, rfl, rfl, Nat.le_refl _, Nat.le_refl _, fun _ _ _ => rfl⟩, fun k o h => h.elim, by rw [ha]; trivial⟩
      · show RepA C _ _ (fun _ => none) (look (.junk :: (envC fi.caps us ++ List.replicate (fi.ntmps - (1 + fi.caps.length)) .und)) t) (tmOf a t)
        cases t with
        | zero => trivial
        | succ t =>
          simp only [look]
          rw [look_append]
          split
          · rename_i hlt
            rw [e1] at hlt
            have h9 := e4 t hlt
            rw [htm, if_pos (by omega), List.getD_cons_succ]
            exact h9
          · rename_i hlt
            rw [look_replicate]
            split
            · rw [htm, if_neg (by rw [e1] at hlt; omega)]; rfl
            · trivial
      · show (.junk :: (envC fi.caps us ++ List.replicate (fi.ntmps - (1 + fi.caps.length)) .und) : List AV).length = _
        rw [ha]
        simp [e1]
        have := hll.2
        omega
    have hz : yst0 fi y.us = yst0 fi us := rfl
    refine wpIn_mono (ycode_sound ok zok lok hF yo (fun bid c p r h => hL y fi hfi hts rfl yo bid c p r h) fi.body 0 (yst0 fi us) _ (some 0) r W _ a W hclear ⟨[], by simp [y, h]⟩ h0 s hA hr) ?_
    have fin : ∀ {m' : Option Nat} {W' : World}, Rel (some 0) r m' ⟨[], none⟩ → y.M m' W' → J items.length W' ∨ Jx W' := by
      rintro m' W' (⟨c, k1, k2, rfl⟩ | ⟨rfl, _⟩) hm
      · left
        have hm : J (0 + c.length) W' := hm
        rw [List.append_nil] at k1
        rw [Nat.zero_add, ← k1, h] at hm
        exact hm
      · exact .inr hm
    have hres : ∀ (tm : Array Value) (W' : World), (results fn tm).run P W' = .ok (tupV []) W' := fun tm W' => run_results (by rw [← f3, hc3]; simp)
    intro e a' W' hq
    cases e with
    | normal =>
      obtain ⟨hA', m', r', W0, ι', st', k1, k2, k3, k4⟩ := hq
      cases k4
      exact ⟨hA'.defers, _, hres _ _, ⟨_, rfl⟩, fin k1 (yo.adds k2 k3.keep)⟩
    | exit j => obtain ⟨hA', m', r', W0, ι', st', k1, k2, k3, k4⟩ := hq; cases k4
    | ret =>
      obtain ⟨h1, m', k1, k2⟩ := hq
      exact ⟨h1, _, hres _ _, ⟨_, rfl⟩, fin k1 k2⟩
    | _ => exact hq.elim

theorem E_sound (ok : CtxOk P C) (zok : ZeroOk P C) (lok : LimOk P C) (fok : FnOk P C) (pok : PrimOk P C) : ∀ n, (∀ g us r, E C n g us = some r → Spec P C g us r) ∧ (∀ g us r, YE C n g us = some r → YSpec P C g us r) ∧ (∀ g bid c p o, LL C n g bid c p = some o → LSpec P C g bid c p o) ∧
    ∀ g us bid c p r, YL C n g us bid c p = some r → ∀ (y : Yi) fi, C.fn g = some fi → C.iter g = some y.ts → y.us = us → YOk P C y fi → YLSpec P C y fi g bid c p r := by
  intro n
  induction n using Nat.strongRecOn with
  | _ n ih =>
    refine ⟨fun g us r h => ?_, fun g us r h => ?_, fun g bid c p o h => ?_, fun g us bid c p r h => ?_⟩
    · cases n with
      | zero => simp [E] at h
      | succ n =>
        simp only [E] at h
        cases hp : C.prim g with
        | some hh => rw [hp] at h; exact pok g hh _ us r hp (ih n (by omega)).1 h
        | none =>
          rw [hp] at h
          simp only at h
          cases hfn : C.fn g with
          | some fi0 =>
            rw [hfn] at h
            exact afun_sound ok zok lok (fun fi hf => fok g fi hp (by simp [Ctx.fx, hf])) (ih n (by omega)).1 (ih n (by omega)).2.1 (fun bid c p o h => (ih n (by omega)).2.2.1 g bid c p o h) h
          | none =>
            rw [hfn] at h
            exact axfun_sound ok zok lok hfn (fun fi hf => fok g fi hp hf) (ih n (by omega)).1 (ih n (by omega)).2.1 (fun bid c p o h => (ih n (by omega)).2.2.1 g bid c p o h) h
    · cases n with
      | zero => simp [YE] at h
      | succ n =>
        simp only [YE] at h
        cases hp : C.prim g with
        | some hh => rw [hp] at h; cases h
        | none =>
          rw [hp] at h
          exact yfun_sound ok zok lok (fun fi hf => fok g fi hp (by simp [Ctx.fx, hf])) (ih n (by omega)).1 (fun y fi h1 h2 h3 h4 bid c p r h => (ih n (by omega)).2.2.2 g us bid c p r h y fi h1 h2 h3 h4) h
    · cases hrc : isRange c with
      | true =>
        cases c with
        | rangeFunc fo ps asg body => exact range_sound ok zok lok (fun m hm => ⟨(ih m hm).1, (ih m hm).2.1, (ih m hm).2.2.1⟩) h
        | _ => cases hrc
      | false =>
      have goal : LSpec0 P C g bid c p o → LSpec P C g bid c p o := fun h => by
        cases c <;> first | exact h | (cases hrc)
      refine goal ?_
      intro ti tu fi fn hl hfi hres f ι a w rd S a0 hf hs ho hk s
      refine wpIn_loop_fuel (fun m a w => ∃ p ι, LL C m g bid c p = some o ∧ Alike S a0 a ∧ Sim C f ι (unpack ti p) a w) ⟨p, ι, h, hk, s⟩ ?_
      rintro m a w hm ⟨p, ι, h, hk, s⟩
      cases m with
      | zero => simp [LL] at h
      | succ m =>
        have hfold : acodeK C (fun g us => E C m g us) (fun g us => YE C m g us) (fun bid c p => LL C m g bid c p) g fi c bid LO (unpack ti p) (fun u => some (.ret u)) (fun e st => match e with
            | .n => match pack C ti st with
              | some p' => LL C m g bid c p'
              | none => none
            | .x j => bif Nat.beq j bid then (pack C tu st).map .brk else none) = some o := by
          simp only [LL] at h
          unfold around at h
          rw [hfi, hl] at h
          cases c <;> first | exact h | (cases hrc)
        replace h := hfold
        refine wpIn_mono (acodeK_sound ok zok lok (ih m (by omega)).1 (ih m (by omega)).2.1 (fun bid c p o h => (ih m (by omega)).2.2.1 g bid c p o h) hf hfi hres c bid LO _ _ _ o ι a w hs.loop ho hk h s) ?_
        intro e a' w' hq
        cases e with
        | normal =>
          obtain ⟨⟨ι', st', s', h'⟩, hk'⟩ := hq
          simp only at h'
          cases hp : pack C ti st' with
          | none => rw [hp] at h'; cases h'
          | some p' =>
            rw [hp] at h'
            obtain ⟨ι2, s2⟩ := unpack_sound hf s' hp
            exact ⟨m, by omega, p', ι2, h', hk', s2⟩
        | exit j =>
          obtain ⟨⟨ι', st', s', h'⟩, hk'⟩ := hq
          simp only [nbeq] at h'
          obtain ⟨hj, h'⟩ := cond_some h'
          simp only [decide_eq_true_eq] at hj
          simp only [Option.map_eq_some_iff] at h'
          obtain ⟨q, hq, rfl⟩ := h'
          obtain ⟨ι2, s2⟩ := unpack_sound hf s' hq
          exact ⟨⟨hj, q, rfl, ι2, s2⟩, hk'⟩
        | ret =>
          obtain ⟨⟨u, h1, h4⟩, hk'⟩ := hq
          cases h4
          exact ⟨⟨u, rfl, h1⟩, hk'⟩
        | _ => exact hq.1.elim
    · intro y fi hfi hts hus yo ti tu hl m0 W0 ι a W hpre hm hA hcl s
      subst hus
      refine wpIn_loop_fuel (fun n' a W => ∃ p m' r' W0 ι, YL C n' g y.us bid c p = some r' ∧ Rel m0 r m' r' ∧ y.M m' W0 ∧ AInv y a ∧ Sim C (itFr y.H W0) ι (unpack ti p) a W) ⟨p, m0, r, W0, ι, h, .refl _ _, hm, hA, s⟩ ?_
      rintro n' a W hn' ⟨p, m', r', W0, ι, h, hrel, hm, hA, s⟩
      cases n' with
      | zero => simp [YL] at h
      | succ n' =>
        simp only [YL, yround, hfi, hts, hl] at h
        refine wpIn_mono (ycode_sound ok zok lok (ih n' (by omega)).1 yo (fun bid c p r h => (ih n' (by omega)).2.2.2 g y.us bid c p r h y fi hfi hts rfl yo) c bid (unpack ti p) _ m' r' W0 ι a W hcl (hpre.rel hrel) hm s hA h) ?_
        intro e a' W' hq
        cases e with
        | normal =>
          obtain ⟨hA', m2, r2, W02, ι2, st2, k1, k2, k3, k4⟩ := hq
          simp only at k4
          cases hp : pack C ti st2 with
          | none => rw [hp] at k4; cases k4
          | some p' =>
            rw [hp] at k4
            obtain ⟨ι3, s3⟩ := unpack_sound (itFr_ok (yo.le k2)) k3 hp
            exact ⟨n', by omega, p', m2, r2, W02, ι3, k4, hrel.trans k1, k2, hA', s3⟩
        | exit j =>
          obtain ⟨hA', m2, r2, W02, ι2, st2, k1, k2, k3, k4⟩ := hq
          simp only [nbeq] at k4
          obtain ⟨hj, k4⟩ := cond_some k4
          simp only [decide_eq_true_eq] at hj
          simp only [Option.map_eq_some_iff] at k4
          obtain ⟨q, hq, rfl⟩ := k4
          obtain ⟨ι3, s3⟩ := unpack_sound (itFr_ok (yo.le k2)) k3 hq
          exact ⟨hj, hA', m2, q, W02, ι3, hrel.trans k1, k2, s3⟩
        | ret =>
          obtain ⟨h1, m2, k1, k2⟩ := hq
          exact ⟨h1, m2, hrel.trans k1, k2⟩
        | _ => exact hq.elim

end Go.Ab
