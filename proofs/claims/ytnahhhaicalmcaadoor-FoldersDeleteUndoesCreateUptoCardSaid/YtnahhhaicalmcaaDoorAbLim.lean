/- No fuel: what holds with enough of it. -/
import Derived.Test.YtnahhhaicalmcaaDoorAbCode
set_option linter.unusedVariables false
set_option linter.unusedSimpArgs false
namespace Go.Ab
open Go.RowKit
variable {C : Ctx} {P : Program}

def Ev {α : Type} (x : Nat → Option α) (r : α) : Prop := ∃ n, ∀ m, n ≤ m → x m = some r
theorem Ev.uniq {α : Type} {x : Nat → Option α} {r r' : α} (h : Ev x r) (h' : Ev x r') : r = r' := by
  obtain ⟨n, h⟩ := h
  obtain ⟨n', h'⟩ := h'
  have h1 := h (max n n') (Nat.le_max_left _ _)
  have h2 := h' (max n n') (Nat.le_max_right _ _)
  rw [h1] at h2
  exact Option.some.inj h2
theorem Ev.const {α : Type} {r : α} : Ev (fun _ => some r) r := ⟨0, fun _ _ => rfl⟩
theorem Ev.congr {α : Type} {x y : Nat → Option α} {r : α} (h : Ev x r) (e : ∀ m, y m = x m) : Ev y r := by
  obtain ⟨n, h⟩ := h
  exact ⟨n, fun m hm => by rw [e, h m hm]⟩
theorem Ev.bind {α β : Type} {x : Nat → Option α} {k : Nat → α → Option β} {a : α} {r : β} (h : Ev x a) (h' : Ev (fun m => k m a) r) : Ev (fun m => (x m).bind (k m)) r := by
  obtain ⟨n, h⟩ := h
  obtain ⟨n', h'⟩ := h'
  refine ⟨max n n', fun m hm => ?_⟩
  simp only [h m (by omega), Option.bind_some]
  exact h' m (by omega)
theorem Ev.shift {α : Type} {x : Nat → Option α} {r : α} (h : Ev (fun m => x (m + 1)) r) : Ev x r := by
  obtain ⟨n, h⟩ := h
  refine ⟨n + 1, fun m hm => ?_⟩
  have h1 : x (m - 1 + 1) = some r := h (m - 1) (by omega)
  rwa [show m - 1 + 1 = m by omega] at h1

open Classical in
noncomputable def lim {α : Type} (x : Nat → Option α) : Option α := if h : ∃ r, Ev x r then some h.choose else none
theorem lim_some {α : Type} {x : Nat → Option α} {r : α} : lim x = some r ↔ Ev x r := by
  unfold lim
  split
  · rename_i h
    constructor
    · intro e; cases e; exact h.choose_spec
    · intro e; rw [h.choose_spec.uniq e]
  · rename_i h
    constructor
    · intro e; cases e
    · intro e; exact (h ⟨r, e⟩).elim

/-- what a function yields -/
noncomputable def Fi (C : Ctx) (g : Nat) (us : List U) : Option U := lim fun m => E C m g us
/-- what a loop yields -/
noncomputable def Li (C : Ctx) (g bid : Nat) (c : Code) (p : JP) : Option LO := lim fun m => LL C m g bid c p

/-- what an iterator yields -/
noncomputable def Yf (C : Ctx) (g : Nat) (us : List U) : Option (List U) := lim fun m => YE C m g us
/-- what an iterator's loop yields -/
noncomputable def Yl (C : Ctx) (g : Nat) (us : List U) (bid : Nat) (c : Code) (p : JP) : Option YR := lim fun m => YL C m g us bid c p
theorem Ev.map {α β : Type} {x : Nat → Option α} {f : α → β} {a : α} (h : Ev x a) : Ev (fun m => (x m).map f) (f a) := by
  obtain ⟨n, h⟩ := h
  exact ⟨n, fun m hm => by simp only [h m hm, Option.map_some]⟩

theorem callF_form {F : Nat → List U → Option U} {dr : Bool} {st : St} {g : Nat} {caps : List Cap} {as : List AV} {d : Option Nat} {x : Option U} {k : U → Option St} (h : callF C F dr st g caps as d = some (x, k)) :
    ∃ g' us, x = F g' us ∧ ∀ F', callF C F' dr st g caps as d = some (F' g' us, k) := by
  unfold callF at h
  cases hfi : C.fn g with
  | none => rw [hfi] at h; cases h
  | some fi =>
    rw [hfi] at h
    simp only at h
    obtain ⟨hc, h⟩ := cond_some h
    split at h
    · rename_i st1 us cs h1 h2 h3
      simp only [Option.some.injEq, Prod.mk.injEq] at h
      obtain ⟨rfl, rfl⟩ := h
      refine ⟨g, us ++ cs, rfl, fun F' => ?_⟩
      unfold callF
      simp only [hfi, hc, cond_true, h1, h2, h3]
    · cases h
theorem callV_form {F : Nat → List U → Option U} {st : St} {t : Nat} {u : U} {as : List AV} {d : Option Nat} {x : Option U} {k : U → Option St} (h : callV C F st t u as d = some (x, k)) :
    ∃ g' us, x = F g' us ∧ ∀ F', callV C F' st t u as d = some (F' g' us, k) := by
  unfold callV at h
  split at h
  · rename_i ps r hte
    obtain ⟨hc, h⟩ := cond_some h
    split at h
    · rename_i us hus
      simp only [Option.some.injEq, Prod.mk.injEq] at h
      obtain ⟨rfl, rfl⟩ := h
      refine ⟨u.fid, us ++ u.toL, rfl, fun F' => ?_⟩
      unfold callV
      simp only [hte, hc, cond_true, hus]
    · cases h
  · cases h
theorem acall_form {F : Nat → List U → Option U} {dr : Bool} {st : St} {ev : Operand → AV} {c : Call} {d : Option Nat} {x : Option U} {k : U → Option St} (h : acall C F dr st ev c d = some (x, k)) :
    ∃ g us, x = F g us ∧ ∀ F', acall C F' dr st ev c d = some (F' g us, k) := by
  unfold acall at h
  split at h
  · rename_i fx hc
    split at h
    · rename_i g caps he
      cases hb : drBad C dr fx g with
      | true => rw [hb] at h; cases h
      | false =>
        rw [hb] at h
        obtain ⟨g', us, h1, h2⟩ := callF_form h
        refine ⟨g', us, h1, fun F' => ?_⟩
        unfold acall
        simp only [hc, he, hb, cond_false]
        exact h2 F'
    · rename_i t u he
      obtain ⟨g', us, h1, h2⟩ := callV_form h
      refine ⟨g', us, h1, fun F' => ?_⟩
      unfold acall
      simp only [hc, he]
      exact h2 F'
    · cases h
  · cases h

theorem acall_none {F : Nat → List U → Option U} {dr : Bool} {st : St} {ev : Operand → AV} {c : Call} {d : Option Nat} (h : acall C F dr st ev c d = none) (F' : Nat → List U → Option U) : acall C F' dr st ev c d = none := by
  cases h' : acall C F' dr st ev c d with
  | none => rfl
  | some p =>
    obtain ⟨x, k⟩ := p
    obtain ⟨g, us, _, h2⟩ := acall_form h'
    rw [h2 F] at h; cases h
theorem axcall_form {F : Nat → List U → Option U} {st : St} {c : Call} {d : Option Nat} {x : Option U} {k : U → Option (Bool × St)} (h : axcall C F st c d = some (x, k)) :
    ∃ g us, x = F g us ∧ ∀ F', axcall C F' st c d = some (F' g us, k) := by
  unfold axcall at h
  split at h
  · rename_i fx hcal
    split at h
    · rename_i g caps hev0
      split at h
      · rename_i fi hfn hxfn
        split at h
        · rename_i ti tu hxt
          split at h
          · rename_i st1 hfz
            split at h
            · rename_i g' caps1 hev1
              obtain ⟨hc, h'⟩ := cond_some h
              clear h
              split at h'
              · rename_i p hp
                simp only [Option.some.injEq, Prod.mk.injEq] at h'
                obtain ⟨rfl, rfl⟩ := h'
                refine ⟨g, encJ p, rfl, fun F' => ?_⟩
                unfold axcall
                simp only [hcal, hev0, hfn, hxfn, hxt, hfz, hev1, hc, cond_true, hp]
              · cases h'
            · cases h
          · cases h
        · cases h
      · cases h
    · cases h
  · cases h

section
variable {R : Type} {F : Nat → List U → Option U} {Fs : Nat → Nat → List U → Option U} (hF : ∀ g us r, F g us = some r → Ev (fun m => Fs m g us) r)
include hF
theorem aoperK_lim {dr : Bool} {o : Oper} {st : St} {K : St → Option R} {Ks : Nat → St → Option R} {r : R} (hK : ∀ st, K st = some r → Ev (fun m => Ks m st) r) (h : aoperK C F dr o st K = some r) : Ev (fun m => aoperK C (Fs m) dr o st (Ks m)) r := by
  unfold aoperK at h ⊢
  cases he : escape C dr st o.op with
  | none => rw [he] at h; cases h
  | some st1 =>
    rw [he] at h
    simp only at h ⊢
    cases hp : apure C st1 st1.eval o.op with
    | some p =>
      obtain ⟨safe, v⟩ := p
      rw [hp] at h
      simp only at h ⊢
      obtain ⟨rfl, h⟩ := cond_some h
      exact hK _ h
    | none =>
      rw [hp] at h
      simp only at h ⊢
      cases hi : aimp C st1 st1.eval o.op o.dst with
      | some p =>
        obtain ⟨safe, st2⟩ := p
        rw [hi] at h
        simp only at h ⊢
        obtain ⟨rfl, h⟩ := cond_some h
        exact hK _ h
      | none =>
        rw [hi] at h
        simp only at h ⊢
        split at h
        · rename_i c hc
          split at h
          · rename_i x k hac
            obtain ⟨g, us, rfl, h2⟩ := acall_form hac
            simp only [Option.bind_eq_some_iff] at h
            obtain ⟨u, hu, h⟩ := h
            simp only [h2]
            refine (hF g us u hu).bind ?_
            cases hk : k u with
            | none => rw [hk] at h; cases h
            | some st2 => rw [hk] at h; exact hK _ h
          · rename_i hac
            cases dr with
            | true => cases h
            | false =>
              simp only [cond_false] at h
              simp only [acall_none hac, cond_false]
              split at h
              · rename_i x k hxc
                obtain ⟨g, us, rfl, h2⟩ := axcall_form hxc
                simp only [Option.bind_eq_some_iff] at h
                obtain ⟨u, hu, h⟩ := h
                simp only [h2]
                refine (hF g us u hu).bind ?_
                cases hk : k u with
                | none => rw [hk] at h; cases h
                | some q =>
                  obtain ⟨safe, st2⟩ := q
                  rw [hk] at h
                  obtain ⟨rfl, h⟩ := cond_some h
                  exact hK _ h
              · cases h
        · cases h
theorem aoperG_lim {j : Nat} {w : Bool} {o : Oper} {st : St} {K : St → Option R} {Ks : Nat → St → Option R} {r : R} (hK : ∀ st, K st = some r → Ev (fun m => Ks m st) r) (h : aoperG C F j w o st K = some r) : Ev (fun m => aoperG C (Fs m) j w o st (Ks m)) r := by
  unfold aoperG at h ⊢
  cases hg : gexp st 20 j w with
  | none => rw [hg] at h; simp at h
  | some gd =>
    cases hd : o.dst with
    | none => rw [hg, hd] at h; simp at h
    | some d =>
      rw [hg, hd] at h
      simp only at h ⊢
      cases hdj : Nat.beq d j with
      | true => rw [hdj] at h; simp at h
      | false =>
        rw [hdj] at h
        simp only [cond_false] at h ⊢
        have call : ∀ {g : Nat} {us : List U} {v : U → AV}, ((bif gd then F g us else some (.I 0)).bind fun r => K (st.put (some d) (.cv j w (v r)))) = some r →
            Ev (fun m => (bif gd then Fs m g us else some (.I 0)).bind fun r => Ks m (st.put (some d) (.cv j w (v r)))) r := by
          intro g us v hh
          simp only [Option.bind_eq_some_iff] at hh
          obtain ⟨u, hu, hh⟩ := hh
          clear h
          cases gd with
          | true => exact (hF g us u hu).bind (hK _ hh)
          | false =>
            simp only [cond_false, Option.some.injEq] at hu
            subst hu
            exact hK _ hh
        cases hp : apure C st (fun x => strip st 20 j w (st.eval x)) o.op with
        | some p =>
          obtain ⟨safe, v⟩ := p
          rw [hp] at h
          simp only at h ⊢
          cases hcv : isCv v with
          | true => rw [hcv] at h; simp at h
          | false =>
            rw [hcv] at h
            simp only [cond_false] at h ⊢
            obtain ⟨hs, h⟩ := cond_some h
            rw [hs]
            exact hK _ h
        | none =>
          rw [hp] at h
          simp only at h ⊢
          split at h
          · rename_i c hc
            split at h
            · rename_i fx hcal
              split at h
              · rename_i g caps hst
                split at h
                · rename_i fi cs us hfi hcs hus
                  split at h
                  · rename_i t hrts
                    obtain ⟨hcc, h⟩ := cond_some h
                    simp only [hcal, hst, hfi, hcs, hus, hrts, hcc, cond_true]
                    exact call h
                  · cases h
                · cases h
              · rename_i t u hst
                split at h
                · rename_i ps t' us hte hus
                  obtain ⟨hcc, h⟩ := cond_some h
                  simp only [hcal, hst, hte, hus, hcc, cond_true]
                  exact call h
                · cases h
              · cases h
            · cases h
          · cases h

theorem aopsK_lim {dr : Bool} {ops : List Oper} {K : St → Option R} {Ks : Nat → St → Option R} {r : R} (hK : ∀ st, K st = some r → Ev (fun m => Ks m st) r) : ∀ {l : List Oper} {st : St}, aopsK C F dr ops l st K = some r → Ev (fun m => aopsK C (Fs m) dr ops l st (Ks m)) r
  | [], st, h => hK _ h
  | o :: l, st, h => by
    simp only [aopsK] at h ⊢
    cases hg : o.guard with
    | none =>
      rw [hg] at h
      exact aoperK_lim hF (fun st h => aopsK_lim hK h) h
    | some p =>
      obtain ⟨j', w⟩ := p
      rw [hg] at h
      simp only at h ⊢
      cases hd : dstOf ops j' with
      | none => rw [hd] at h; cases h
      | some j =>
        rw [hd] at h
        exact aoperG_lim hF (fun st h => aopsK_lim hK h) h
theorem aopsS_lim {ops : List Oper} {K : St → Option R} {Ks : Nat → St → Option R} {r : R} (hK : ∀ st, K st = some r → Ev (fun m => Ks m st) r) : ∀ {l : List Oper} {st : St}, aopsS C F ops l st K = some r → Ev (fun m => aopsS C (Fs m) ops l st (Ks m)) r
  | [], st, h => hK _ h
  | o :: l, st, h => by
    simp only [aopsS] at h ⊢
    cases hg : o.guard with
    | none =>
      rw [hg] at h
      simp only at h ⊢
      cases hco : convOwn C st o with
      | some st' => rw [hco] at h; exact aopsS_lim hK h
      | none =>
        rw [hco] at h
        simp only at h ⊢
        cases hpk : pickOf st o.op with
        | some q =>
          obtain ⟨c, x, y⟩ := q
          rw [hpk] at h
          cases c <;> exact aopsS_lim hK h
        | none =>
          rw [hpk] at h
          exact aoperK_lim hF (fun st h => aopsS_lim hK h) h
    | some p =>
      obtain ⟨j', w⟩ := p
      rw [hg] at h
      simp only at h ⊢
      cases hd : dstOf ops j' with
      | none => rw [hd] at h; cases h
      | some j =>
        rw [hd] at h
        simp only at h ⊢
        split at h
        · rename_i x hx
          cases hb : (bif w then x else !x) with
          | true => rw [hb] at h; simp only [cond_true] at h ⊢; exact aoperK_lim hF (fun st h => aopsS_lim hK h) h
          | false => rw [hb] at h; simp only [cond_false] at h ⊢; exact aopsS_lim hK h
        · exact aopsS_lim hK h
        · cases h
end

theorem rgItems_lim {Y : Nat → List U → Option (List U)} {Ys : Nat → Nat → List U → Option (List U)} (hY : ∀ g us r, Y g us = some r → Ev (fun m => Ys m g us) r) {n : Nat} {u : U} {items : List U} (h : rgItems C Y n u = some items) : Ev (fun m => rgItems C (Ys m) n u) items := by
  unfold rgItems at h ⊢
  cases hit : C.iter u.fid with
  | none => rw [hit] at h; cases h
  | some ts =>
    rw [hit] at h
    obtain ⟨hc, h⟩ := cond_some h
    simp only [hc, cond_true]
    exact hY _ _ _ h
section
variable {F : Nat → List U → Option U} {Fs : Nat → Nat → List U → Option U} (hF : ∀ g us r, F g us = some r → Ev (fun m => Fs m g us) r)
include hF
theorem yop_lim {fi : Fn} {us : List U} {ts : List Nat} {o : Oper} {ys : List Nat} {st : St} {K : List Nat → St → Option YR} {Ks : Nat → List Nat → St → Option YR} {r : YR} (hK : ∀ ys st r, K ys st = some r → Ev (fun m => Ks m ys st) r) (h : yop C F fi us ts o ys st K = some r) :
    Ev (fun m => yop C (Fs m) fi us ts o ys st (Ks m)) r := by
  unfold yop at h ⊢
  cases hy : isYield ys o.op with
  | some xs =>
    rw [hy] at h
    simp only at h ⊢
    cases hfl : flats (xs.map st.eval) with
    | none => rw [hfl] at h; cases h
    | some vs =>
      rw [hfl] at h
      simp only at h ⊢
      obtain ⟨hc, h⟩ := cond_some h
      simp only [hc, cond_true]
      unfold yiK at h ⊢
      split at h
      · rename_i rT h0 h1
        cases h
        obtain ⟨n0, k0⟩ := hK _ _ _ h0
        obtain ⟨n1, k1⟩ := hK _ _ _ h1
        refine ⟨max n0 n1, fun m hm => ?_⟩
        simp only [k0 m (by omega), k1 m (by omega)]
      · cases h
  | none =>
    rw [hy] at h
    simp only at h ⊢
    cases hmv : moveY ys o.op with
    | true =>
      rw [hmv] at h
      simp only [cond_true] at h ⊢
      cases hd : o.dst with
      | none => rw [hd] at h; cases h
      | some d =>
        rw [hd] at h
        simp only at h ⊢
        obtain ⟨hc, h⟩ := cond_some h
        simp only [hc, cond_true]
        exact hK _ _ _ h
    | false =>
      rw [hmv] at h
      simp only [cond_false] at h ⊢
      exact aoperK_lim hF (fun st h => hK _ _ _ h) h
theorem yops_lim {fi : Fn} {us : List U} {ts : List Nat} {ops : List Oper} {K : St → Option YR} {Ks : Nat → St → Option YR} (hK : ∀ st r, K st = some r → Ev (fun m => Ks m st) r) : ∀ {l : List Oper} {ys : List Nat} {st : St} {r : YR}, yops C F fi us ts ops l ys st K = some r → Ev (fun m => yops C (Fs m) fi us ts ops l ys st (Ks m)) r
  | [], ys, st, r, h => hK _ _ h
  | o :: l, ys, st, r, h => by
    simp only [yops] at h ⊢
    cases hg : o.guard with
    | none =>
      rw [hg] at h
      simp only at h ⊢
      cases hpk : pickOf st o.op with
      | some q =>
        obtain ⟨c, x, y⟩ := q
        rw [hpk] at h
        cases c <;> exact yops_lim hK h
      | none =>
        rw [hpk] at h
        exact yop_lim hF (fun ys st r h => yops_lim hK h) h
    | some p =>
      obtain ⟨j', w⟩ := p
      rw [hg] at h
      simp only at h ⊢
      cases hd : dstOf ops j' with
      | none => rw [hd] at h; cases h
      | some j =>
        rw [hd] at h
        simp only at h ⊢
        split at h
        · rename_i x hx
          cases hb : (bif w then x else !x) with
          | true => rw [hb] at h; simp only [cond_true] at h ⊢; exact yop_lim hF (fun ys st r h => yops_lim hK h) h
          | false => rw [hb] at h; simp only [cond_false] at h ⊢; exact yops_lim hK h
        · exact yops_lim hK h
        · cases h
theorem ycode_lim {L : Nat → Code → JP → Option YR} {Ls : Nat → Nat → Code → JP → Option YR} (hL : ∀ bid c p o, L bid c p = some o → Ev (fun m => Ls m bid c p) o) {g : Nat} {fi : Fn} {us : List U} {ts : List Nat} :
    ∀ (c : Code) (bid : Nat) (st : St) (K : Ex → St → Option YR) (Ks : Nat → Ex → St → Option YR) (r : YR), (∀ e st r, K e st = some r → Ev (fun m => Ks m e st) r) →
    ycode C F L g fi us ts c bid st K = some r → Ev (fun m => ycode C (Fs m) (Ls m) g fi us ts c bid st (Ks m)) r := by
  intro c
  induction c with
  | skip => intro bid st K Ks r hK h; simp only [ycode] at h ⊢; exact hK _ _ _ h
  | seq x y ihx ihy =>
    intro bid st K Ks r hK h
    simp only [ycode] at h ⊢
    refine ihx bid st _ _ r ?_ h
    intro e st' r h
    cases e with
    | n => exact ihy bid st' K Ks r hK h
    | x j => exact hK _ _ _ h
  | region id ops draw =>
    intro bid st K Ks r hK h
    simp only [ycode] at h ⊢
    cases draw with
    | true =>
      simp only [cond_true] at h ⊢
      obtain ⟨hd, h⟩ := cond_some h
      simp only [hd, cond_true]
      exact aopsK_lim hF (fun st h => hK _ _ _ h) h
    | false =>
      simp only [cond_false] at h ⊢
      exact yops_lim hF (fun st r h => hK _ _ _ h) h
  | cond cnd x y ihx ihy =>
    intro bid st K Ks r hK h
    simp only [ycode] at h ⊢
    cases hc : st.eval cnd with
    | b t =>
      rw [hc] at h
      cases t with
      | true => exact ihx bid st K Ks r hK h
      | false => exact ihy bid st K Ks r hK h
    | _ => rw [hc] at h; cases h
  | block id c ih =>
    intro bid st K Ks r hK h
    simp only [ycode] at h ⊢
    refine ih id st _ _ r ?_ h
    intro e st' r h
    cases e with
    | n => exact hK _ _ _ h
    | x j =>
      simp only at h ⊢
      cases hj : Nat.beq j id with
      | true => rw [hj] at h; exact hK _ _ _ h
      | false => rw [hj] at h; exact hK _ _ _ h
  | loop c ih =>
    intro bid st K Ks r hK h
    simp only [ycode] at h ⊢
    cases hl : C.loops g bid with
    | none => rw [hl] at h; cases h
    | some tt =>
      obtain ⟨ti, tu⟩ := tt
      rw [hl] at h
      simp only at h ⊢
      cases hp : pack C ti st with
      | none => rw [hp] at h; cases h
      | some p =>
        rw [hp] at h
        simp only at h ⊢
        unfold yoK at h ⊢
        simp only [Option.bind_eq_some_iff] at h
        obtain ⟨r1, h1, h⟩ := h
        refine (hL _ _ _ _ h1).bind ?_
        cases ho : r1.out with
        | none => rw [ho] at h; exact ⟨0, fun _ _ => h⟩
        | some q =>
          rw [ho] at h
          simp only [Option.map_eq_some_iff] at h
          obtain ⟨r2, h2, rfl⟩ := h
          exact (hK _ _ _ h2).map
  | exit id => intro bid st K Ks r hK h; simp only [ycode] at h ⊢; exact hK _ _ _ h
  | ret => intro bid st K Ks r hK h; simp only [ycode] at h ⊢; exact ⟨0, fun _ _ => h⟩
  | _ => intro bid st K Ks r hK h; simp [ycode] at h
end
theorem Yf_of {g : Nat} {us items : List U} (hp : C.prim g = none) (h : yfun C (Fi C) (fun bid c p => Yl C g us bid c p) g us = some items) : Yf C g us = some items := by
  refine lim_some.2 (Ev.shift ?_)
  simp only [YE, hp]
  unfold yfun at h ⊢
  cases hfi : C.fn g with
  | none => rw [hfi] at h; simp at h
  | some fi =>
    cases hts : C.iter g with
    | none => rw [hfi, hts] at h; simp at h
    | some ts =>
      rw [hfi, hts] at h
      simp only at h ⊢
      obtain ⟨hc, h⟩ := cond_some h
      simp only [hc, cond_true]
      unfold yfK at h ⊢
      simp only [Option.bind_eq_some_iff] at h
      obtain ⟨r, hr, h⟩ := h
      refine Ev.bind (ycode_lim (fun g us r h => lim_some.1 h) (fun bid c p o h => lim_some.1 h) fi.body 0 (yst0 fi us) (fun e _ => match e with | .n => some ⟨[], none⟩ | .x _ => none) (fun _ e _ => match e with | .n => some ⟨[], none⟩ | .x _ => none) r (fun e st r h => ⟨0, fun _ _ => h⟩) hr) (k := fun _ r => match r.out with | none => some r.items | some _ => none) ⟨0, fun _ _ => h⟩
theorem Yl_of {g : Nat} {us : List U} {bid : Nat} {c : Code} {p : JP} {r : YR} (h : yround C (Fi C) (fun bid c p => Yl C g us bid c p) g us bid c p = some r) : Yl C g us bid c p = some r := by
  refine lim_some.2 (Ev.shift ?_)
  simp only [YL]
  unfold yround at h ⊢
  cases hfi : C.fn g with
  | none => rw [hfi] at h; simp at h
  | some fi =>
    cases hts : C.iter g with
    | none => rw [hfi, hts] at h; simp at h
    | some ts =>
      cases hl : C.loops g bid with
      | none => rw [hfi, hts, hl] at h; simp at h
      | some tt =>
        obtain ⟨ti, tu⟩ := tt
        rw [hfi, hts, hl] at h
        simp only at h ⊢
        refine ycode_lim (fun g us r h => lim_some.1 h) (fun bid c p o h => lim_some.1 h) c bid _ _ _ r (fun e st r h => ?_) h
        cases e with
        | n =>
          simp only at h ⊢
          cases hp : pack C ti st with
          | none => rw [hp] at h; cases h
          | some p' => rw [hp] at h; exact lim_some.1 h
        | x j => exact ⟨0, fun _ _ => h⟩
theorem acodeK_lim {F : Nat → List U → Option U} {Fs : Nat → Nat → List U → Option U} (hF : ∀ g us r, F g us = some r → Ev (fun m => Fs m g us) r) {Y : Nat → List U → Option (List U)} {Ys : Nat → Nat → List U → Option (List U)} (hY : ∀ g us r, Y g us = some r → Ev (fun m => Ys m g us) r) {L : Nat → Code → JP → Option LO} {Ls : Nat → Nat → Code → JP → Option LO}
    (hL : ∀ bid c p o, L bid c p = some o → Ev (fun m => Ls m bid c p) o) {g : Nat} {fi : Fn} :
    ∀ (c : Code) (bid : Nat) (R : Type) (st : St) (Kr : U → Option R) (K : Ex → St → Option R) (Krs : Nat → U → Option R) (Ks : Nat → Ex → St → Option R) (r : R), (∀ u, Kr u = some r → Ev (fun m => Krs m u) r) → (∀ e st, K e st = some r → Ev (fun m => Ks m e st) r) →
    acodeK C F Y L g fi c bid R st Kr K = some r → Ev (fun m => acodeK C (Fs m) (Ys m) (Ls m) g fi c bid R st (Krs m) (Ks m)) r := by
  intro c
  induction c with
  | skip => intro bid R st Kr K Krs Ks r hKr hK h; simp only [acodeK] at h ⊢; exact hK _ _ h
  | seq x y ihx ihy =>
    intro bid R st Kr K Krs Ks r hKr hK h
    simp only [acodeK] at h ⊢
    refine ihx bid R st Kr _ Krs _ r hKr ?_ h
    intro e st' h
    cases e with
    | n => exact ihy bid R st' Kr K Krs Ks r hKr hK h
    | x j => exact hK _ _ h
  | region id ops draw =>
    intro bid R st Kr K Krs Ks r hKr hK h
    simp only [acodeK] at h ⊢
    cases draw with
    | true =>
      simp only [cond_true] at h ⊢
      obtain ⟨hd, h⟩ := cond_some h
      simp only [hd, cond_true]
      exact aopsK_lim hF (fun st h => hK _ _ h) h
    | false =>
      simp only [cond_false] at h ⊢
      cases hsp : C.split g id with
      | false => rw [hsp] at h; exact aopsK_lim hF (fun st h => hK _ _ h) h
      | true => rw [hsp] at h; exact aopsS_lim hF (fun st h => hK _ _ h) h
  | cond cnd x y ihx ihy =>
    intro bid R st Kr K Krs Ks r hKr hK h
    simp only [acodeK] at h ⊢
    cases hc : st.eval cnd with
    | b t =>
      rw [hc] at h
      simp only at h ⊢
      split at h
      · cases t with
        | true => exact ihx bid R st Kr K Krs Ks r hKr hK h
        | false => exact ihy bid R st Kr K Krs Ks r hKr hK h
      · rename_i tp _
        simp only [Option.bind_eq_some_iff] at h
        obtain ⟨o, ho, h⟩ := h
        have h1 : Ev (fun m => (bif t then acodeK C (Fs m) (Ys m) (Ls m) g fi x bid LO st (fun u => some (.ret u)) (fun e st' => match e with | .n => (pack C tp st').map .brk | .x _ => none)
          else acodeK C (Fs m) (Ys m) (Ls m) g fi y bid LO st (fun u => some (.ret u)) (fun e st' => match e with | .n => (pack C tp st').map .brk | .x _ => none))) o := by
          cases t with
          | true => exact ihx bid LO st _ _ _ _ o (fun u h => ⟨0, fun _ _ => h⟩) (fun e st h => ⟨0, fun _ _ => h⟩) ho
          | false => exact ihy bid LO st _ _ _ _ o (fun u h => ⟨0, fun _ _ => h⟩) (fun e st h => ⟨0, fun _ _ => h⟩) ho
        refine h1.bind ?_
        cases o with
        | brk q => exact hK _ _ h
        | ret u => exact hKr _ h
    | _ => rw [hc] at h; simp at h
  | block id c ih =>
    intro bid R st Kr K Krs Ks r hKr hK h
    simp only [acodeK] at h ⊢
    refine ih id R st Kr _ Krs _ r hKr ?_ h
    intro e st' h
    cases e with
    | n => exact hK _ _ h
    | x j =>
      simp only at h ⊢
      cases hj : Nat.beq j id with
      | true => rw [hj] at h; exact hK _ _ h
      | false => rw [hj] at h; exact hK _ _ h
  | loop c ih =>
    intro bid R st Kr K Krs Ks r hKr hK h
    simp only [acodeK] at h ⊢
    cases hrc : isRange c with
    | true => rw [hrc] at h; cases h
    | false =>
    rw [hrc] at h
    simp only [cond_false] at h ⊢
    cases hl : C.loops g bid with
    | none => rw [hl] at h; cases h
    | some tt =>
      obtain ⟨ti, tu⟩ := tt
      rw [hl] at h
      simp only at h ⊢
      cases hp : pack C ti st with
      | none => rw [hp] at h; cases h
      | some p =>
        rw [hp] at h
        simp only [Option.bind_eq_some_iff] at h ⊢
        obtain ⟨o, ho, h⟩ := h
        refine (hL _ _ _ _ ho).bind ?_
        cases o with
        | brk q => exact hK _ _ h
        | ret u => exact hKr _ h
  | rangeFunc fo ps asg body _ _ =>
    intro bid R st Kr K Krs Ks r hKr hK h
    simp only [acodeK] at h ⊢
    cases hfo : st.eval fo with
    | fn tf u =>
      rw [hfo] at h
      cases hl : C.loops g bid with
      | none => rw [hl] at h; cases h
      | some tt =>
        obtain ⟨ti, tu⟩ := tt
        rw [hl] at h
        simp only at h ⊢
        cases hp : pack C ti st with
        | none => rw [hp] at h; cases h
        | some p =>
            rw [hp] at h
            simp only at h ⊢
            obtain ⟨hc, h⟩ := cond_some h
            simp only [hc, cond_true]
            simp only [Option.bind_eq_some_iff] at h
            obtain ⟨items, hri, o, hoo, h⟩ := h
            refine (rgItems_lim hY hri).bind ((hL _ _ _ _ hoo).bind ?_)
            cases o with
            | brk q =>
              simp only at h ⊢
              cases hb : (U.nth q.us 0).toB with
              | true => rw [hb] at h; exact hK _ _ h
              | false => rw [hb] at h; exact hK _ _ h
            | ret u => cases h
    | _ => rw [hfo] at h; simp at h
  | exit id => intro bid R st Kr K Krs Ks r hKr hK h; simp only [acodeK] at h ⊢; exact hK _ _ h
  | ret =>
    intro bid R st Kr K Krs Ks r hKr hK h
    simp only [acodeK] at h ⊢
    cases hu : aresX C st fi with
    | none => rw [hu] at h; cases h
    | some u => rw [hu] at h; exact hKr _ h
  | _ => intro bid R st Kr K Krs Ks r hKr hK h; simp [acodeK] at h

/-- a function's equation -/
theorem Fi_of {g : Nat} {us : List U} {r : U} (hp : C.prim g = none) (h : afun C (Fi C) (Yf C) (Li C g) g us = some r) : Fi C g us = some r := by
  refine lim_some.2 (Ev.shift ?_)
  simp only [E, hp]
  unfold afun at h ⊢
  cases hfi : C.fn g with
  | none => rw [hfi] at h; cases h
  | some fi =>
    rw [hfi] at h
    simp only at h ⊢
    obtain ⟨hc, h⟩ := cond_some h
    simp only [hc, cond_true]
    exact acodeK_lim (fun g us r h => lim_some.1 h) (fun g us r h => lim_some.1 h) (fun bid c p o h => lim_some.1 h) fi.body 0 U _ _ _ _ _ r (fun u h => ⟨0, fun _ _ => h⟩) (fun e st h => ⟨0, fun _ _ => h⟩) h
/-- .. of one that works on the caller's memory -/
theorem Fx_of {g : Nat} {us : List U} {r : U} (hp : C.prim g = none) (hno : C.fn g = none) (h : axfun C (Fi C) (Yf C) (Li C g) g us = some r) : Fi C g us = some r := by
  refine lim_some.2 (Ev.shift ?_)
  simp only [E, hp, hno]
  unfold axfun at h ⊢
  cases hfi : C.xfn g with
  | none => rw [hfi] at h; cases h
  | some fi =>
    rw [hfi] at h
    simp only at h ⊢
    cases hxt : fi.xt with
    | none => rw [hxt] at h; cases h
    | some tt =>
      obtain ⟨ti, tu⟩ := tt
      rw [hxt] at h
      simp only at h ⊢
      obtain ⟨hc, h⟩ := cond_some h
      simp only [hc, cond_true]
      exact acodeK_lim (fun g us r h => lim_some.1 h) (fun g us r h => lim_some.1 h) (fun bid c p o h => lim_some.1 h) fi.body 0 U _ _ _ _ _ r (fun u h => ⟨0, fun _ _ => h⟩) (fun e st h => ⟨0, fun _ _ => h⟩) h
theorem Fi_prim {g : Nat} {us : List U} {r : U} {f : List U → Option U} (hp : C.prim g = some (fun _ => f)) (h : f us = some r) : Fi C g us = some r := by
  refine lim_some.2 (Ev.shift ⟨0, fun m _ => ?_⟩)
  simp only [E, hp]
  exact h
theorem Fi_primF {g : Nat} {us : List U} {r : U} {f : (Nat → List U → Option U) → List U → Option U} (hp : C.prim g = some f) (h : ∀ Fs : Nat → Nat → List U → Option U, (∀ g us r, Fi C g us = some r → Ev (fun m => Fs m g us) r) → Ev (fun m => f (Fs m) us) r) : Fi C g us = some r := by
  refine lim_some.2 (Ev.shift ?_)
  simp only [E, hp]
  exact h (fun m g us => E C m g us) (fun g us r h => lim_some.1 h)
/-- a loop's equation -/
theorem Li_of {g bid : Nat} {c : Code} {p : JP} {o : LO} (h : around C (Fi C) (Yf C) (Li C g) g bid c p = some o) : Li C g bid c p = some o := by
  refine lim_some.2 (Ev.shift ?_)
  simp only [LL]
  unfold around at h ⊢
  cases hfi : C.fx g with
  | none => rw [hfi] at h; simp at h
  | some fi =>
    cases hl : C.loops g bid with
    | none => rw [hfi, hl] at h; simp at h
    | some tt =>
      obtain ⟨ti, tu⟩ := tt
      rw [hfi, hl] at h
      simp only at h ⊢
      have plain : isRange c = false → ∀ {x : Option LO}, acodeK C (Fi C) (Yf C) (Li C g) g fi c bid LO (unpack ti p) (fun u => some (.ret u)) (fun e st => match e with
            | .n => match pack C ti st with
              | some p' => Li C g bid c p'
              | none => none
            | .x j => bif Nat.beq j bid then (pack C tu st).map .brk else none) = x → x = some o → Ev (fun m => acodeK C (fun g us => E C m g us) (fun g us => YE C m g us) (fun bid c p => LL C m g bid c p) g fi c bid LO (unpack ti p) (fun u => some (.ret u)) (fun e st => match e with
            | .n => match pack C ti st with
              | some p' => LL C m g bid c p'
              | none => none
            | .x j => bif Nat.beq j bid then (pack C tu st).map .brk else none)) o := by
        intro _ x hx hxo
        subst hxo
        refine acodeK_lim (fun g us r h => lim_some.1 h) (fun g us r h => lim_some.1 h) (fun bid c p o h => lim_some.1 h) c bid LO _ _ _ _ _ o (fun u h => ⟨0, fun _ _ => h⟩) (fun e st h => ?_) hx
        cases e with
        | n =>
          simp only at h ⊢
          cases hp : pack C ti st with
          | none => rw [hp] at h; cases h
          | some p' => rw [hp] at h; exact lim_some.1 h
        | x j => exact ⟨0, fun _ _ => h⟩
      cases c with
      | rangeFunc fo ps asg body =>
        simp only at h ⊢
        obtain ⟨us0, ls0⟩ := p
        cases us0 with
        | nil => simp at h
        | cons fu us =>
        cases ls0 with
        | nil => simp at h
        | cons items ls =>
        cases hit : C.iter (U.nth (fu :: us) 0).toI.toNat with
        | none => simp only [hit] at h; cases h
        | some ts =>
          simp only [hit] at h ⊢
          cases items with
          | nil => exact ⟨0, fun _ _ => h⟩
          | cons x xs =>
            simp only at h ⊢
            refine acodeK_lim (fun g us r h => lim_some.1 h) (fun g us r h => lim_some.1 h) (fun bid c p o h => lim_some.1 h) asg bid LO _ _ _ _ _ o (fun u h => by cases h) (fun e st h => ?_) h
            cases e with
            | x j => cases h
            | n =>
              simp only at h ⊢
              refine acodeK_lim (fun g us r h => lim_some.1 h) (fun g us r h => lim_some.1 h) (fun bid c p o h => lim_some.1 h) body bid LO _ _ _ _ _ o (fun u h => by cases h) (fun e st h => ?_) h
              cases e with
              | n =>
                simp only at h ⊢
                cases hp : pack C ti st with
                | none => rw [hp] at h; cases h
                | some p' => rw [hp] at h; exact lim_some.1 h
              | x j => exact ⟨0, fun _ _ => h⟩
      | _ => exact plain rfl rfl h
/-- what a function yields, it does -/
theorem Fi_spec (ok : CtxOk P C) (zok : ZeroOk P C) (lok : LimOk P C) (fok : FnOk P C) (pok : PrimOk P C) {g : Nat} {us : List U} {r : U} (h : Fi C g us = some r) : Spec P C g us r := by
  obtain ⟨n, hn⟩ := lim_some.1 h
  exact (E_sound ok zok lok fok pok n).1 g us r (hn n (Nat.le_refl _))

end Go.Ab
