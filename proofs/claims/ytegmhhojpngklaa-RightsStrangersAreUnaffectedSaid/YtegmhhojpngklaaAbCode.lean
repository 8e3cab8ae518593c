/- Code, functions, and the fuel. -/
import Derived.Test.YtegmhhojpngklaaAbTpl
import Derived.Test.YtegmhhojpngklaaAbDraw4
namespace Go.Ab
open Go.RowKit
variable {C : Ctx} {P : Program}

def Post {R : Type} (P : Program) (C : Ctx) (f : Fr) (fi : Fn) (fn : Func) (Kr : U → Option R) (K : Ex → St → Option R) (r : R) : Exit → Act → World → Prop
  | .normal, a, w => Nx C f (K .n) r a w
  | .exit j, a, w => Nx C f (K (.x j)) r a w
  | .ret, a, w => ∃ u v, a.defers = [] ∧ (results fn a.tmps).run P w = .ok v w ∧ RetOk C f fi u v w ∧ Kr u = some r
  | _, _, _ => False
def LPost (P : Program) (C : Ctx) (f : Fr) (fi : Fn) (fn : Func) (bid : Nat) (tu : Tpl) (o : LO) : Exit → Act → World → Prop
  | .exit j, a, w => j = bid ∧ ∃ q, o = .brk q ∧ ∃ ι, Sim C f ι (unpack tu q) a w
  | .ret, a, w => ∃ u v, o = .ret u ∧ a.defers = [] ∧ (results fn a.tmps).run P w = .ok v w ∧ RetOk C f fi u v w
  | _, _, _ => False
/-- what is known of a loop -/
def LSpec (P : Program) (C : Ctx) (g bid : Nat) (c : Code) (p : JP) (o : LO) : Prop :=
  ∀ ti tu fi fn, C.loops g bid = some (ti, tu) → C.fn g = some fi → fi.res = fn.results.toList → ∀ (f : Fr) (ι : Own) (a : Act) (w : World), FrOk f → Sim C f ι (unpack ti p) a w → (Code.loop c).wp P (LPost P C f fi fn bid tu o) a w

theorem acodeK_sound (ok : CtxOk P C) (zok : ZeroOk P C) (lok : LimOk P C) {F : Nat → List U → Option U} {L : Nat → Code → JP → Option LO} {g : Nat} (hF : ∀ g us r, F g us = some r → Spec P C g us r) (hL : ∀ bid c p o, L bid c p = some o → LSpec P C g bid c p o)
    {f : Fr} (hf : FrOk f) {fi : Fn} {fn : Func} (hfi : C.fn g = some fi) (hres : fi.res = fn.results.toList) :
    ∀ (c : Code) (bid : Nat) (R : Type) (st : St) (Kr : U → Option R) (K : Ex → St → Option R) (r : R) (ι : Own) (a : Act) (w : World), acodeK C F L g fi c bid R st Kr K = some r → Sim C f ι st a w → c.wp P (Post P C f fi fn Kr K r) a w := by
  intro c
  induction c with
  | skip => intro bid R st Kr K r ι a w h s; simp only [acodeK] at h; exact wp_skip ⟨ι, st, s, h⟩
  | seq x y ihx ihy =>
    intro bid R st Kr K r ι a w h s
    simp only [acodeK] at h
    refine wp_seq (wp_mono (ihx bid R st Kr _ r ι a w h s) ?_)
    intro e a' w' hq
    cases e with
    | normal => obtain ⟨ι', st', s', h'⟩ := hq; exact ihy bid R st' Kr K r ι' a' w' h' s'
    | exit j => exact hq
    | ret => exact hq
    | _ => exact hq.elim
  | region id ops draw =>
    intro bid R st Kr K r ι a w h s
    simp only [acodeK] at h
    cases draw with
    | false =>
      simp only [cond_false] at h
      exact wp_region_list (aopsK_sound ok zok lok hF hf (K := K .n) (r := r) (fun a w hq => hq) s h)
    | true =>
      cases hd : drawOk C ops.toList with
      | false => rw [hd] at h; simp at h
      | true =>
        rw [hd] at h
        simp only [cond_true] at h
        exact draw_sound ok zok lok hF hf (K := K .n) (r := r) (fun a w hq => hq) s hd h
  | cond cnd x y ihx ihy =>
    intro bid R st Kr K r ι a w h s
    simp only [acodeK] at h
    cases hc : st.eval cnd with
    | b t =>
      rw [hc] at h
      simp only at h
      have he := s.eval cnd
      rw [hc] at he
      have he : a.eval cnd = .bool t := he
      refine wp_cond he ?_
      have plain : (bif t then acodeK C F L g fi x bid R st Kr K else acodeK C F L g fi y bid R st Kr K) = some r → (if t = true then x else y).wp P (Post P C f fi fn Kr K r) a w := by
        intro h
        cases t with
        | true => exact ihx bid R st Kr K r ι a w h s
        | false => exact ihy bid R st Kr K r ι a w h s
      have join : ∀ tp, ((bif t then acodeK C F L g fi x bid LO st (fun u => some (.ret u)) (fun e st' => match e with | .n => (pack C tp st').map .brk | .x _ => none)
          else acodeK C F L g fi y bid LO st (fun u => some (.ret u)) (fun e st' => match e with | .n => (pack C tp st').map .brk | .x _ => none)).bind fun o => match o with
            | .brk q => K .n (unpack tp q)
            | .ret u => Kr u) = some r → (if t = true then x else y).wp P (Post P C f fi fn Kr K r) a w := by
        intro tp h
        simp only [Option.bind_eq_some_iff] at h
        obtain ⟨o, ho, h⟩ := h
        have key : (if t = true then x else y).wp P (Post P C f fi fn (fun u => some (.ret u)) (fun e st' => match e with | .n => (pack C tp st').map .brk | .x _ => none) o) a w := by
          cases t with
          | true => exact ihx bid LO st _ _ o ι a w ho s
          | false => exact ihy bid LO st _ _ o ι a w ho s
        refine wp_mono key ?_
        intro e a' w' hq
        cases e with
        | normal =>
          obtain ⟨ι', st', s', h'⟩ := hq
          simp only [Option.map_eq_some_iff] at h'
          obtain ⟨q, hq, rfl⟩ := h'
          obtain ⟨ι2, s2⟩ := unpack_sound hf s' hq
          exact ⟨ι2, _, s2, h⟩
        | exit j =>
          obtain ⟨ι', st', s', h'⟩ := hq
          cases h'
        | ret =>
          obtain ⟨u, v, h1, h2, h3, h4⟩ := hq
          simp only [Option.some.injEq] at h4
          subst h4
          exact ⟨u, v, h1, h2, h3, h⟩
        | _ => exact hq.elim
      split at h
      · exact plain h
      · exact join _ h
    | _ => rw [hc] at h; simp at h
  | block id c ih =>
    intro bid R st Kr K r ι a w h s
    simp only [acodeK] at h
    refine wp_block (wp_mono (ih id R st Kr _ r ι a w h s) ?_)
    intro e a' w' hq
    cases e with
    | normal => exact hq
    | exit j =>
      obtain ⟨ι', st', s', h'⟩ := hq
      simp only [Exit.inBlock]
      simp only [nbeq] at h'
      by_cases hj : j = id
      · rw [if_pos hj]
        simp only [hj, decide_true, cond_true] at h'
        exact ⟨ι', st', s', h'⟩
      · rw [if_neg hj]
        simp only [hj, decide_false, cond_false] at h'
        exact ⟨ι', st', s', h'⟩
    | ret => exact hq
    | _ => exact hq.elim
  | loop c ih =>
    intro bid R st Kr K r ι a w h s
    simp only [acodeK] at h
    cases hl : C.loops g bid with
    | none => rw [hl] at h; cases h
    | some tt =>
      obtain ⟨ti, tu⟩ := tt
      rw [hl] at h
      simp only at h
      cases hp : pack C ti st with
      | none => rw [hp] at h; cases h
      | some p =>
        rw [hp] at h
        simp only [Option.bind_eq_some_iff] at h
        obtain ⟨o, ho, h⟩ := h
        obtain ⟨ι2, s2⟩ := unpack_sound hf s hp
        refine wp_mono (hL bid c p o ho ti tu fi fn hl hfi hres f ι2 a w hf s2) ?_
        intro e a' w' hq
        cases e with
        | exit j =>
          obtain ⟨rfl, q, rfl, ι3, s3⟩ := hq
          exact ⟨ι3, _, s3, h⟩
        | ret =>
          obtain ⟨u, v, rfl, h1, h2, h3⟩ := hq
          exact ⟨u, v, h1, h2, h3, h⟩
        | _ => exact hq.elim
  | exit id => intro bid R st Kr K r ι a w h s; simp only [acodeK] at h; exact wp_exit ⟨ι, st, s, h⟩
  | ret =>
    intro bid R st Kr K r ι a w h s
    simp only [acodeK] at h
    cases hu : aresU C st fi with
    | none => rw [hu] at h; cases h
    | some u =>
      rw [hu] at h
      obtain ⟨v, h1, h2⟩ := aresU_sound ok hf s hres hu
      exact wp_ret ⟨u, v, s.defers, h1, h2, h⟩
  | _ => intro bid R st Kr K r ι a w h s; simp [acodeK] at h

theorem wp_loop_fuel {c : Code} {Q : Exit → Act → World → Prop} (J : Nat → Act → World → Prop) {n : Nat} {a : Act} {w : World} (h₀ : J n a w)
    (round : ∀ m a w, m ≤ n → J m a w → c.wp P (Exit.then (fun a' w' => ∃ m', m' < m ∧ J m' a' w') Q) a w) : (Code.loop c).wp P Q a w := by
  intro b k cs
  have key : ∀ m, m ≤ n → ∀ a w, J m a w → ∃ e a' w', Q e a' w' ∧ Arrives P (lone (b.at a (.code c :: .inLoop c :: k)) cs w) b k cs e a' w' := by
    intro m
    induction m using Nat.strongRecOn with
    | _ m ih =>
      intro hm a w hJ
      obtain ⟨e, a₁, w₁, hq, harr⟩ := round m a w hm hJ b (.inLoop c :: k) cs
      cases e with
      | normal =>
        obtain ⟨m', hlt, hJ'⟩ := hq
        obtain ⟨e₂, a₂, w₂, hq₂, harr₂⟩ := ih m' hlt (by omega) a₁ w₁ hJ'
        exact ⟨e₂, a₂, w₂, hq₂, .of_steps (Steps.trans harr (.one step_inLoop)) harr₂⟩
      | exit id => exact ⟨_, a₁, w₁, hq, .pass (x := .inLoop c) rfl (fun _ _ => .inl (by simp)) harr⟩
      | goto l => exact ⟨_, a₁, w₁, hq, .pass (x := .inLoop c) rfl (fun _ _ => .inl (by simp)) harr⟩
      | ret => exact ⟨_, a₁, w₁, hq, .pass (x := .inLoop c) rfl (fun _ _ => .inl (by simp)) harr⟩
      | panic ch => exact ⟨_, a₁, w₁, hq, .pass (x := .inLoop c) rfl (fun _ _ => .inl (by simp)) harr⟩
      | outgrown => exact ⟨_, a₁, w₁, hq, .pass (x := .inLoop c) rfl (fun _ _ => .inl (by simp)) harr⟩
  obtain ⟨e, a', w', hq, harr⟩ := key n (Nat.le_refl _) a w h₀
  exact ⟨e, a', w', hq, .of_steps (.one step_loop) harr⟩

/-- the program's functions as the tables have them -/
def FnOk (P : Program) (C : Ctx) : Prop := ∀ g fi, C.prim g = none → C.fn g = some fi → ∃ fn, P.funcs[g]? = some fn ∧ fn.body = some fi.body ∧ fi.res = fn.results.toList ∧ fi.ntmps = fn.ntmps ∧ fn.name ≠ "runtime.NumGoroutine"
/-- what is laid down by hand -/
def PrimOk (P : Program) (C : Ctx) : Prop := ∀ g h us r, C.prim g = some h → h us = some r → Spec P C g us r

mutual
def E (C : Ctx) : Nat → Nat → List U → Option U
  | 0, _, _ => none
  | n + 1, g, us => match C.prim g with
    | some h => h us
    | none => afun C (fun g us => E C n g us) (fun bid c p => LL C n g bid c p) g us
def LL (C : Ctx) : Nat → Nat → Nat → Code → JP → Option LO
  | 0, _, _, _, _ => none
  | n + 1, g, bid, c, p => around C (fun g us => E C n g us) (fun bid c p => LL C n g bid c p) g bid c p
end

theorem afun_sound (ok : CtxOk P C) (zok : ZeroOk P C) (lok : LimOk P C) {F : Nat → List U → Option U} {L : Nat → Code → JP → Option LO} {g : Nat} (fok : ∀ fi, C.fn g = some fi → ∃ fn, P.funcs[g]? = some fn ∧ fn.body = some fi.body ∧ fi.res = fn.results.toList ∧ fi.ntmps = fn.ntmps ∧ fn.name ≠ "runtime.NumGoroutine") (hF : ∀ g us r, F g us = some r → Spec P C g us r) (hL : ∀ bid c p o, L bid c p = some o → LSpec P C g bid c p o)
    {us : List U} {r : U} (h : afun C F L g us = some r) : Spec P C g us r := by
  unfold afun at h
  cases hfi : C.fn g with
  | none => rw [hfi] at h; cases h
  | some fi =>
    rw [hfi] at h
    simp only at h
    obtain ⟨_, h⟩ := cond_some h
    obtain ⟨fn, f1, f2, f3, f4, f5⟩ := fok fi hfi
    refine ⟨fi, hfi, fun f vs hf hargs => .inl ⟨?_, ?_⟩⟩
    · simp [callFunc, f1, f2, f5]
    · obtain ⟨s, _⟩ := Sim.start (fi := fi) hf hargs
      rw [f4] at s
      refine calls_of_wp f1 f2 (wp_mono (acodeK_sound ok zok lok hF hL hf hfi f3 fi.body 0 U (st0 C fi us) _ _ r _ _ _ h (by simpa using s)) ?_)
      intro e a w hq
      cases e with
      | normal =>
        obtain ⟨ι', st', s', h'⟩ := hq
        obtain ⟨v, h1, h2⟩ := aresU_sound ok hf s' f3 h'
        exact ⟨s'.defers, v, h1, h2⟩
      | exit j => obtain ⟨ι', st', s', h'⟩ := hq; cases h'
      | ret =>
        obtain ⟨u, v, h1, h2, h3, h4⟩ := hq
        cases h4
        exact ⟨h1, v, h2, h3⟩
      | _ => exact hq.elim

theorem E_sound (ok : CtxOk P C) (zok : ZeroOk P C) (lok : LimOk P C) (fok : FnOk P C) (pok : PrimOk P C) : ∀ n, (∀ g us r, E C n g us = some r → Spec P C g us r) ∧ ∀ g bid c p o, LL C n g bid c p = some o → LSpec P C g bid c p o := by
  intro n
  induction n using Nat.strongRecOn with
  | _ n ih =>
    refine ⟨fun g us r h => ?_, fun g bid c p o h => ?_⟩
    · cases n with
      | zero => simp [E] at h
      | succ n =>
        simp only [E] at h
        cases hp : C.prim g with
        | some hh => rw [hp] at h; exact pok g hh us r hp h
        | none =>
          rw [hp] at h
          exact afun_sound ok zok lok (fun fi hf => fok g fi hp hf) (ih n (by omega)).1 (fun bid c p o h => (ih n (by omega)).2 g bid c p o h) h
    · intro ti tu fi fn hl hfi hres f ι a w hf s
      refine wp_loop_fuel (fun m a w => ∃ p ι, LL C m g bid c p = some o ∧ Sim C f ι (unpack ti p) a w) ⟨p, ι, h, s⟩ ?_
      rintro m a w hm ⟨p, ι, h, s⟩
      cases m with
      | zero => simp [LL] at h
      | succ m =>
        simp only [LL, around, hfi, hl] at h
        refine wp_mono (acodeK_sound ok zok lok (ih m (by omega)).1 (fun bid c p o h => (ih m (by omega)).2 g bid c p o h) hf hfi hres c bid LO _ _ _ o ι a w h s) ?_
        intro e a' w' hq
        cases e with
        | normal =>
          obtain ⟨ι', st', s', h'⟩ := hq
          simp only at h'
          cases hp : pack C ti st' with
          | none => rw [hp] at h'; cases h'
          | some p' =>
            rw [hp] at h'
            obtain ⟨ι2, s2⟩ := unpack_sound hf s' hp
            exact ⟨m, by omega, p', ι2, h', s2⟩
        | exit j =>
          obtain ⟨ι', st', s', h'⟩ := hq
          simp only [nbeq] at h'
          obtain ⟨hj, h'⟩ := cond_some h'
          simp only [decide_eq_true_eq] at hj
          simp only [Option.map_eq_some_iff] at h'
          obtain ⟨q, hq, rfl⟩ := h'
          obtain ⟨ι2, s2⟩ := unpack_sound hf s' hq
          exact ⟨hj, q, rfl, ι2, s2⟩
        | ret =>
          obtain ⟨u, v, h1, h2, h3, h4⟩ := hq
          cases h4
          exact ⟨u, v, rfl, h1, h2, h3⟩
        | _ => exact hq.elim

end Go.Ab
