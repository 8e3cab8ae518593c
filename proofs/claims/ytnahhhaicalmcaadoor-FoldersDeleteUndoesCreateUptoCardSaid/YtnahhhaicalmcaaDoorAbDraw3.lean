/- Drawn regions: an operation that makes blocks looks at the store and at its operands alone. -/
import Derived.Test.YtnahhhaicalmcaaDoorAbDraw2
set_option linter.unusedVariables false
set_option linter.unusedSimpArgs false
namespace Go.Ab
open Go.RowKit
variable {C : Ctx} {P : Program} {F : Nat → List U → Option U}

theorem SLe.of_eq {S S' : Sto} (h : S' = S) : SLe S S' := by subst h; exact SLe.refl _
theorem SLe.trans {S S' S'' : Sto} (h : SLe S S') (k : SLe S' S'') : SLe S S'' := fun id b e => k _ _ (h _ _ e)
theorem SLe.blk {st : St} {d : Nat} {b : Blk} (h : st.sto d = none) : SLe st.sto (st.blk d b).sto := by
  intro id x e
  simp only [St.blk]
  cases hb : Nat.beq id d with
  | true => rw [Nat.eq_of_beq_eq_true hb] at e; rw [h] at e; cases e
  | false => exact e

theorem unbox_mono {st st' : St} (h : SLe st.sto st'.sto) {t : Nat} {v : AV} {vs : List AV} (k : unbox C st t v = some vs) : unbox C st' t v = some vs := by
  unfold unbox at k ⊢
  split at k
  · exact k
  · rename_i ps rt ht
    obtain ⟨hc, k⟩ := cond_some k
    cases hf : fitsArg C st t v with
    | true =>
      rw [fitsArg_mono h hf]
      simpa using k
    | false =>
      rw [hf, Bool.false_or] at hc
      rw [hc, Bool.or_true]
      simpa using k
  · rename_i kt vt bt ht
    split at k
    · rename_i id
      cases hs : st.sto id with
      | none => rw [hs] at k; cases k
      | some b => simp only [h _ _ hs]; rw [hs] at k; exact k
    · cases k
  · rename_i ty hn _ _ ht
    obtain ⟨hc, k⟩ := cond_some k
    rw [fitsArg_mono h hc]
    exact k
  · cases k

theorem put_env {st st' : St} {d : Option Nat} {v : AV} (h : st'.env = st.env) : (st'.put d v).env = (st.put d v).env := by
  cases d <;> simp [St.put, h]
theorem put_sto {st : St} {d : Option Nat} {v : AV} : (st.put d v).sto = st.sto := by cases d <;> rfl
theorem St.eq {a b : St} (h : a.env = b.env) (k : a.sto = b.sto) : a = b := by cases a; cases b; simp_all

/-- what a step that makes blocks comes to -/
def Makes (st s1 : St) (d : Option Nat) (step : St → Option St) : Prop :=
  ∃ v, isCv v = false ∧ s1.env = (st.put d v).env ∧ SLe st.sto s1.sto ∧ ∀ st' : St, st'.sto = st.sto → step st' = some ⟨(st'.put d v).env, s1.sto⟩

theorem layR_make {u : U} {d : Nat} : ∀ {os : List (Option Bool)} {ts : List Nat} {j : Nat} {st s1 : St} {l : List (Nat × Option Nat)}, layR C st u d os ts j = some (s1, l) →
    s1.env = st.env ∧ SLe st.sto s1.sto ∧ ∀ st' : St, st'.sto = st.sto → layR C st' u d os ts j = some (⟨st'.env, s1.sto⟩, l)
  | os, [], j, st, s1, l, h => by
    simp only [layR, Option.some.injEq, Prod.mk.injEq] at h
    obtain ⟨rfl, rfl⟩ := h
    exact ⟨rfl, SLe.refl _, fun st' e => by simp only [layR]; rw [← e]⟩
  | os, t :: ts, j, st, s1, l, h => by
    simp only [layR] at h
    cases hl : layR C st u d os.tail ts (j + 1) with
    | none => rw [hl] at h; cases h
    | some p =>
      obtain ⟨s2, l2⟩ := p
      obtain ⟨e1, e2, e3⟩ := layR_make hl
      rw [hl] at h
      simp only at h
      cases ho : hd0 os with
      | none =>
        rw [ho] at h
        simp only [Option.some.injEq, Prod.mk.injEq] at h
        obtain ⟨rfl, rfl⟩ := h
        exact ⟨e1, e2, fun st' e => by simp only [layR, e3 st' e, ho]⟩
      | some z =>
        rw [ho] at h
        simp only at h
        split at h
        · rename_i ee h1 h2
          simp only [Option.some.injEq, Prod.mk.injEq] at h
          obtain ⟨rfl, rfl⟩ := h
          refine ⟨e1, e2.trans (SLe.blk h1), fun st' e => ?_⟩
          simp only [layR, e3 st' e, ho, h1, h2]
          rfl
        · cases h

theorem put_eq {st st' : St} {d : Option Nat} {v : AV} (e : st'.sto = st.sto) : some (st'.put d v) = some (⟨(st'.put d v).env, (st.put d v).sto⟩ : St) := by
  congr 1
  exact St.eq rfl (by rw [put_sto, put_sto, e])
theorem retOf_make {fi : Fn} {d : Option Nat} {r : U} {st s1 : St} (h : retOf C st fi d r = some s1) : Makes st s1 d fun st' => retOf C st' fi d r := by
  have junk : ∀ s1 : St, some (st.put d .junk) = some s1 → (∀ st', retOf C st' fi d r = some (st'.put d .junk)) → Makes st s1 d fun st' => retOf C st' fi d r := by
    intro s1 h hj
    cases h
    exact ⟨.junk, rfl, rfl, by rw [put_sto]; exact SLe.refl _, fun st' e => by simp only [hj]; exact put_eq e⟩
  rcases hr : fi.rts with _ | ⟨t, _ | ⟨t', ts⟩⟩
  · refine junk s1 ?_ (fun st' => by simp only [retOf, hr])
    simpa only [retOf, hr] using h
  · cases d with
    | none => exact junk s1 (by simpa [retOf, hr, St.put] using h) (fun st' => by simp only [retOf, hr, St.put])
    | some d =>
      simp only [retOf, hr] at h
      split at h
      · rename_i z hz
        split at h
        · rename_i e h1 h2
          cases h
          refine ⟨.ow d none, rfl, rfl, by rw [put_sto]; exact SLe.blk h1, fun st' e' => ?_⟩
          simp only [retOf, hr, hz, e', h1, h2]
          simp [St.put, St.blk, e']
        · cases h
      · rename_i hz
        cases h
        refine ⟨ofU C t r, isCv_ofU _ _, rfl, by rw [put_sto]; exact SLe.refl _, fun st' e => ?_⟩
        simp only [retOf, hr, hz]
        exact put_eq e
  · cases d with
    | none => exact junk s1 (by simpa [retOf, hr, St.put] using h) (fun st' => by simp only [retOf, hr, St.put])
    | some d =>
      simp only [retOf, hr, Option.map_eq_some_iff] at h
      obtain ⟨⟨s2, l⟩, hl, rfl⟩ := h
      obtain ⟨e1, e2, e3⟩ := layR_make hl
      refine ⟨.tup l r, rfl, put_env e1, by rw [put_sto]; exact e2, fun st' e => ?_⟩
      simp only [retOf, hr, e3 st' e, Option.map_some]
      rfl

/-- an operation that reads or makes -/
theorem calm_step {ops : List Oper} {o : Oper} {st s1 : St} (hc : isCalm C o = true) (hg : o.guard = none) (h : oone C F true ops o st = some s1) :
    ∃ v, isCv v = false ∧ s1.env = (st.put o.dst v).env ∧ SLe st.sto s1.sto ∧ ∀ st' : St, st'.sto = st.sto → (∀ x ∈ o.op.operands, st'.eval x = st.eval x) → oone C F true ops o st' = some ⟨(st'.put o.dst v).env, s1.sto⟩ := by
  cases hr : isRead C o with
  | true =>
    obtain ⟨v, h1, rfl, h3⟩ := read_step hr hg h
    exact ⟨v, h1, rfl, by rw [put_sto]; exact SLe.refl _, fun st' e hs => by rw [h3 st' (SLe.of_eq e) hs]; congr 1; exact St.eq rfl (by rw [put_sto, put_sto, e])⟩
  | false =>
    simp only [oone, hg] at h ⊢
    unfold aoperK at h
    cases he : escape C true st o.op with
    | none => rw [he] at h; cases h
    | some st1 =>
      obtain ⟨rfl, he'⟩ := escape_dr he
      rw [he] at h
      simp only at h
      cases hp : apure C st1 st1.eval o.op with
      | some p =>
        obtain ⟨safe, v⟩ := p
        rw [hp] at h
        simp only at h
        obtain ⟨rfl, h⟩ := cond_some h
        cases h
        refine ⟨_, isCv_dropcv v, rfl, by rw [put_sto]; exact SLe.refl _, fun st' e hs => ?_⟩
        unfold aoperK
        rw [he' st' hs]
        simp only [apure_mono (SLe.of_eq e) hs hp, cond_true, put_sto]
        rw [← e]; congr 1; exact St.eq rfl (by rw [put_sto])
      | none =>
        have hp' : ∀ st' : St, st'.sto = st1.sto → (∀ x ∈ o.op.operands, st'.eval x = st1.eval x) → apure C st' st'.eval o.op = none := by
          intro st' e hs
          cases hq : apure C st' st'.eval o.op with
          | none => rfl
          | some p => rw [apure_mono (SLe.of_eq e.symm) (fun x hx => (hs x hx).symm) hq] at hp; cases hp
        rw [hp] at h
        simp only at h
        have fin : ∀ (x : St), aimp C st1 st1.eval o.op o.dst = some (true, x) → x = s1 → (∀ st' : St, st'.sto = st1.sto → (∀ x ∈ o.op.operands, st'.eval x = st1.eval x) → aimp C st' st'.eval o.op o.dst = aimp C st' st1.eval o.op o.dst) →
            (Makes st1 x o.dst fun st' => (aimp C st' st1.eval o.op o.dst).bind fun p => bif p.1 then some p.2 else none) →
            ∃ v, isCv v = false ∧ s1.env = (st1.put o.dst v).env ∧ SLe st1.sto s1.sto ∧ ∀ st' : St, st'.sto = st1.sto → (∀ x ∈ o.op.operands, st'.eval x = st1.eval x) → aoperK C F true o st' some = some ⟨(st'.put o.dst v).env, s1.sto⟩ := by
          rintro x hx rfl hev ⟨v, m1, m2, m3, m4⟩
          refine ⟨v, m1, m2, m3, fun st' e hs => ?_⟩
          unfold aoperK
          rw [he' st' hs]
          simp only [hp' st' e hs, hev st' e hs]
          have := m4 st' e
          simp only at this
          cases hq : aimp C st' st1.eval o.op o.dst with
          | none => rw [hq] at this; cases this
          | some p => obtain ⟨sf, y⟩ := p; rw [hq] at this; exact this
        cases hi : aimp C st1 st1.eval o.op o.dst with
        | some p =>
          obtain ⟨safe, s2⟩ := p
          rw [hi] at h
          simp only at h
          obtain ⟨rfl, h⟩ := cond_some h
          cases h
          refine fin s1 hi rfl ?_ ?_
          · intro st' e hs
            cases ho : o.op with
            | call c =>
              rw [ho] at hs
              have e1 : c.args.toList.map st'.eval = c.args.toList.map st1.eval := List.map_congr_left fun x hx => hs x (by simp only [Op.operands, Call.operands]; cases c.callee <;> simp <;> first | exact .inr (by simpa using hx) | simpa using hx)
              cases o.dst <;> simp only [aimp, e1]
            | buildSlice t n ps =>
              rw [ho] at hs
              have hx : ∀ p ∈ ps.toList, st'.eval p.2 = st1.eval p.2 := fun p hp => hs p.2 (by simp only [Op.operands]; simp; exact ⟨p.1, by simpa using hp⟩)
              have e1 : (ps.toList.map fun p => st'.eval p.2) = ps.toList.map fun p => st1.eval p.2 := List.map_congr_left fun p hp => hx p hp
              have e2 : ∀ e : Nat, (ps.toList.all fun p => decide (p.1 < n) && fitsT C e (st'.eval p.2)) = ps.toList.all fun p => decide (p.1 < n) && fitsT C e (st1.eval p.2) := by
                intro e
                generalize ps.toList = l at hx
                induction l with
                | nil => rfl
                | cons p l ih => simp only [List.all_cons]; rw [hx p (by simp), ih (fun q hq => hx q (by simp [hq]))]
              cases o.dst <;> simp only [aimp, e1, e2]
            | box t x => rw [ho] at hs; cases o.dst <;> simp only [aimp, hs x (by simp [Op.operands])]
            | alloc t => cases o.dst <;> rfl
            | makeSlice t l c => rw [ho] at hs; cases o.dst <;> simp only [aimp, hs l (by simp [Op.operands]), hs c (by simp [Op.operands])]
            | convert t1 t2 x => rw [ho] at hs; cases o.dst <;> simp only [aimp, hs x (by simp [Op.operands])]
            | store t x y => rw [ho] at hs; cases o.dst <;> simp only [aimp, hs x (by simp [Op.operands]), hs y (by simp [Op.operands])]
            | makeMap t r => cases o.dst <;> cases r <;> rfl
            | mapUpdate t m k x => rw [ho] at hs; cases o.dst <;> simp only [aimp, hs m (by simp [Op.operands]), hs k (by simp [Op.operands]), hs x (by simp [Op.operands])]
            | _ => cases o.dst <;> rfl
          · cases ho : o.op with
            | makeMap t r => simp [isCalm, clsOf, ho] at hc
            | mapUpdate t m k x => simp [isCalm, clsOf, ho] at hc
            | store t x y => simp [isCalm, clsOf, ho] at hc
            | call c =>
              exfalso
              rw [ho] at hi
              cases hd : o.dst with
              | none =>
                rw [hd] at hi
                cases hcal : c.callee with
                | builtin b => simp only [isCalm, clsOf, ho, hcal] at hc; cases b <;> simp [aimp, hcal] at hi hc
                | _ => simp [aimp, hcal] at hi
              | some d =>
                rw [hd] at hi
                cases hcal : c.callee with
                | builtin b => simp only [isCalm, clsOf, ho, hcal] at hc; cases b <;> simp [aimp, hcal] at hi hc
                | _ => simp [aimp, hcal] at hi
            | alloc t =>
              rw [ho] at hi
              cases hd : o.dst with
              | none => rw [hd] at hi; simp [aimp] at hi
              | some d =>
                rw [hd] at hi
                simp only [aimp] at hi
                split at hi
                · rename_i hte
                  split at hi
                  · rename_i h1
                    cases hi
                    refine ⟨.pb d [], rfl, rfl, by rw [put_sto]; exact SLe.blk h1, fun st' e => ?_⟩
                    simp only [aimp, hte, e, h1, cond_true, Option.bind_some]
                    simp [St.put, St.blk, e]
                  · cases hi
                · rename_i hte
                  split at hi
                  · rename_i h1
                    cases hi
                    refine ⟨.pb d [], rfl, rfl, by rw [put_sto]; exact SLe.blk h1, fun st' e => ?_⟩
                    simp only [aimp, hte, e, h1, cond_true, Option.bind_some]
                    simp [St.put, St.blk, e]
                  · cases hi
                · rename_i hn1 hn2
                  split at hi
                  · rename_i vs h1 h2
                    obtain ⟨hz, hi⟩ := cond_some hi
                    cases hi
                    refine ⟨.pb d [], rfl, rfl, by rw [put_sto]; exact SLe.blk h1, fun st' e => ?_⟩
                    simp only [aimp, e, h1, unbox_mono (SLe.of_eq e) h2, hz, cond_true, Option.bind_some]
                    simp [St.put, St.blk, e]
                  · cases hi
            | box t x =>
              rw [ho] at hi
              cases hd : o.dst with
              | none => rw [hd] at hi; simp [aimp] at hi
              | some d =>
                rw [hd] at hi
                simp only [aimp] at hi
                split at hi
                · rename_i vs h1 h2
                  cases hi
                  refine ⟨.pb d [], rfl, rfl, by rw [put_sto]; exact SLe.blk h1, fun st' e => ?_⟩
                  simp only [aimp, e, h1, unbox_mono (SLe.of_eq e) h2, cond_true, Option.bind_some]
                  simp [St.put, St.blk, e]
                · cases hi
            | buildSlice t n ps =>
              rw [ho] at hi
              cases hd : o.dst with
              | none => rw [hd] at hi; simp [aimp] at hi
              | some d =>
                rw [hd] at hi
                simp only [aimp] at hi
                split at hi
                · rename_i e us h1 h2 h3
                  obtain ⟨hz, hi⟩ := cond_some hi
                  cases hi
                  refine ⟨.ow d none, rfl, rfl, by rw [put_sto]; exact SLe.blk h1, fun st' e' => ?_⟩
                  simp only [aimp, e', h1, h2, h3, hz, cond_true, Option.bind_some]
                  simp [St.put, St.blk, e']
                · cases hi
            | makeSlice t l c =>
              rw [ho] at hi
              cases hd : o.dst with
              | none => rw [hd] at hi; simp [aimp] at hi
              | some d =>
                rw [hd] at hi
                simp only [aimp] at hi
                split at hi
                · rename_i e _ l _ c h1 h2 h3 h4
                  cases hz : zeroT C 20 e with
                  | false => rw [hz] at hi; simp at hi
                  | true =>
                    rw [hz] at hi
                    simp only [Bool.not_true, cond_false, Option.some.injEq, Prod.mk.injEq] at hi
                    obtain ⟨hsafe, rfl⟩ := hi
                    refine ⟨.ow d none, rfl, rfl, by rw [put_sto]; exact SLe.blk h1, fun st' e' => ?_⟩
                    simp only [aimp, e', h1, h2, h3, h4, hz, Bool.not_true, cond_false, hsafe, cond_true, Option.bind_some]
                    simp [St.put, St.blk, e']
                · cases hi
            | convert t1 t2 x =>
              rw [ho] at hi
              cases hd : o.dst with
              | none => rw [hd] at hi; simp [aimp] at hi
              | some d =>
                rw [hd] at hi
                simp only [aimp] at hi
                split at hi
                · rename_i e s h1 h2 h3
                  split at hi
                  · rename_i h4
                    simp only [Option.some.injEq, Prod.mk.injEq, true_and] at hi
                    subst hi
                    refine ⟨.sl e (.ofL false (U.ofBytes s)), rfl, rfl, by rw [put_sto]; exact SLe.refl _, fun st' e' => ?_⟩
                    simp only [aimp, h1, h2, h3, h4, cond_true, Option.bind_some]
                    simp [St.put, e']
                  · cases hi
                · cases hi
            | _ => rw [ho] at hi; cases hd : o.dst <;> rw [hd] at hi <;> simp [aimp] at hi
        | none =>
          rw [hi] at h
          simp only at h
          split at h
          · rename_i c ho
            have hcl := hc
            simp only [isCalm, clsOf, ho] at hcl
            have hrl := hr
            simp only [isRead, clsOf, ho] at hrl
            cases hcal : c.callee with
            | value f =>
              rw [hcal] at hcl hrl
              cases f with
              | func g =>
                simp only at hcl hrl
                cases hfi : C.fn g with
                | none => rw [hfi] at hcl; simp at hcl
                | some fi =>
                  rw [hfi] at hcl hrl
                  simp only at hcl hrl
                  cases hown : fi.own.all Option.isNone with
                  | false => rw [hown] at hcl; simp at hcl
                  | true =>
                    have hi' : ∀ st' : St, aimp C st' st'.eval o.op o.dst = none := fun st' => by rw [ho]; cases hd : o.dst <;> simp [aimp, hcal]
                    have hso : ∀ st' : St, (∀ x ∈ o.op.operands, st'.eval x = st1.eval x) → c.args.toList.map st'.eval = c.args.toList.map st1.eval := fun st' hs =>
                      List.map_congr_left fun x hx => hs x (by rw [ho]; simp only [Op.operands, Call.operands, hcal]; simp; exact .inr (by simpa using hx))
                    simp only [acall, hcal, St.eval, drBad, Bool.true_and, Bool.not_true, cond_false] at h
                    cases hcf : callF C F true st1 g [] (c.args.toList.map st1.eval) o.dst with
                    | none => rw [hcf] at h; cases h
                    | some p =>
                      obtain ⟨x, k⟩ := p
                      rw [hcf] at h
                      simp only [Option.bind_eq_some_iff] at h
                      obtain ⟨r, rfl, h⟩ := h
                      have hk : k r = some s1 := by
                        cases hq : k r with
                        | none => rw [hq] at h; cases h
                        | some y => rw [hq] at h; exact h
                      have key : ∀ st' : St, SLe st1.sto st'.sto → ∃ k', callF C F true st' g [] (c.args.toList.map st1.eval) o.dst = some (some r, k') ∧ ∀ r, k' r = retOf C st' fi o.dst r := by
                        intro st' hle
                        unfold callF at hcf ⊢
                        simp only [hfi] at hcf ⊢
                        obtain ⟨hcc, hcf⟩ := cond_some hcf
                        simp only [Bool.and_eq_true] at hcc
                        obtain ⟨⟨⟨⟨⟨⟨c1, c2⟩, c3⟩, c4⟩, c5⟩, c6⟩, c7⟩ := hcc
                        rw [selOwns_none hown] at c3 c4
                        rw [fitsArgs_mono hle c1, ownOk_none hown, selOwns_none hown, c3, c4, c5, c6.1]
                        simp only [List.isEmpty_nil, Bool.true_or]
                        simp only [capTs] at c7 ⊢
                        simp only [c7, Bool.and_self, cond_true]
                        have hfr : ∀ s : St, (bif aliasF C fi then freezes C s (selOwns false fi.own (c.args.toList.map st1.eval)) else some s) = some s := by
                          intro s
                          cases ha : aliasF C fi with
                          | false => rfl
                          | true =>
                            rw [ha, hown] at c5
                            simp at c5
                            rw [c5]; rfl
                        rw [hfr] at hcf ⊢
                        cases hus : argUs C st1 (c.args.toList.map st1.eval) with
                        | none => rw [hus] at hcf; simp at hcf
                        | some us =>
                          rw [hus] at hcf
                          simp only [capUs, Option.some.injEq, Prod.mk.injEq] at hcf
                          rw [argUs_mono hle hus]
                          exact ⟨fun r => retOf C st' fi o.dst r, by simp only [capUs]; rw [hcf.1]; rfl, fun r => rfl⟩
                      obtain ⟨k0, e1, e2⟩ := key st1 (SLe.refl _)
                      rw [hcf] at e1
                      simp only [Option.some.injEq, Prod.mk.injEq, true_and] at e1
                      subst e1
                      rw [e2] at hk
                      obtain ⟨v, m1, m2, m3, m4⟩ := retOf_make hk
                      refine ⟨v, m1, m2, m3, fun st' e hs => ?_⟩
                      obtain ⟨k', e3, e4⟩ := key st' (SLe.of_eq e)
                      unfold aoperK
                      rw [he' st' hs]
                      simp only [hp' st' e hs, hi']
                      rw [ho]
                      simp only [acall, hcal, St.eval, drBad, Bool.true_and, Bool.not_true, cond_false, hso st' hs, e3, Option.bind_some, e4, m4 st' e]
              | _ => simp at hrl
            | _ => simp [acall, hcal] at h
          · cases h

end Go.Ab
