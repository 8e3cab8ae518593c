/- Drawn regions: two operations that do not meet may change places. -/
import Derived.Test.YtnahhhaicalmcaaDoorAbDraw
set_option linter.unusedVariables false
set_option linter.unusedSimpArgs false
namespace Go.Ab
open Go.RowKit
variable {C : Ctx} {P : Program} {F : Nat → List U → Option U}

theorem aoperK_bind {R : Type} {dr : Bool} {o : Oper} {st : St} {K : St → Option R} : aoperK C F dr o st K = (aoperK C F dr o st some).bind K := by
  unfold aoperK
  cases he : escape C dr st o.op with
  | none => simp only [Option.bind_none]
  | some st1 =>
    simp only
    cases hp : apure C st1 st1.eval o.op with
    | some p => obtain ⟨safe, v⟩ := p; cases safe <;> simp
    | none =>
      simp only
      cases hi : aimp C st1 st1.eval o.op o.dst with
      | some p => obtain ⟨safe, v⟩ := p; cases safe <;> simp
      | none =>
        simp only
        cases hc : o.op with
        | call c =>
          simp only
          cases ha : acall C F dr st1 st1.eval c o.dst with
          | none =>
            simp only
            cases dr with
            | true => simp
            | false =>
              simp only [cond_false]
              cases hxc : axcall C F st1 c o.dst with
              | none => simp
              | some p =>
                obtain ⟨x, k⟩ := p
                simp only
                cases x with
                | none => simp
                | some u =>
                  simp only [Option.bind_some]
                  cases hk : k u with
                  | none => simp
                  | some q => obtain ⟨safe, s'⟩ := q; cases safe <;> simp
          | some p =>
            obtain ⟨x, k⟩ := p
            simp only
            cases x with
            | none => simp
            | some u =>
              simp only [Option.bind_some]
              cases hk : k u <;> simp
        | _ => simp
theorem aoperG_bind {R : Type} {j : Nat} {w : Bool} {o : Oper} {st : St} {K : St → Option R} : aoperG C F j w o st K = (aoperG C F j w o st some).bind K := by
  unfold aoperG
  cases hg : gexp st 20 j w with
  | none => simp
  | some gd =>
    cases hd : o.dst with
    | none => simp
    | some d =>
      simp only
      cases hb : Nat.beq d j with
      | true => simp
      | false =>
        simp only [cond_false]
        cases hp : apure C st (fun x => strip st 20 j w (st.eval x)) o.op with
        | some p =>
          obtain ⟨safe, v⟩ := p
          simp only
          cases isCv v with
          | true => simp
          | false => simp only [cond_false]; cases (safe || !gd) <;> simp
        | none =>
          simp only
          cases hc : o.op with
          | call c =>
            simp only
            cases hcal : c.callee with
            | value f =>
              simp only
              cases hs : strip st 20 j w (st.eval f) with
              | clo g caps =>
                simp only
                cases h1 : C.fn g with
                | none => simp
                | some fi =>
                  cases h2 : capUs C st caps with
                  | none => simp
                  | some cs =>
                    cases h3 : argUs C st (c.args.toList.map fun x => strip st 20 j w (st.eval x)) with
                    | none => simp
                    | some us =>
                      simp only
                      match h4 : fi.rts with
                      | [] => simp
                      | [t] =>
                        simp only
                        generalize (_ && _ : Bool) = b
                        cases b with
                        | false => simp
                        | true =>
                          simp only [cond_true]
                          cases (bif gd then F g (us ++ cs) else some (.I 0)) <;> simp
                      | _ :: _ :: _ => simp
              | fn t u =>
                simp only
                cases h1 : C.te t with
                | none => simp
                | some ty =>
                  cases ty with
                  | fn ps t' =>
                    cases h3 : argUs C st (c.args.toList.map fun x => strip st 20 j w (st.eval x)) with
                    | none => simp
                    | some us =>
                      simp only
                      generalize (_ && _ : Bool) = b
                      cases b with
                      | false => simp
                      | true =>
                        simp only [cond_true]
                        cases (bif gd then F u.fid (us ++ u.toL) else some (.I 0)) <;> simp
                  | _ => simp
              | _ => simp
            | _ => simp
          | _ => simp

/-- one operation of a region -/
def oone (C : Ctx) (F : Nat → List U → Option U) (dr : Bool) (ops : List Oper) (o : Oper) (st : St) : Option St :=
  match o.guard with
  | none => aoperK C F dr o st some
  | some (j, w) => match dstOf ops j with
    | some j => aoperG C F j w o st some
    | none => none
theorem aopsK_cons {R : Type} {dr : Bool} {ops : List Oper} {o : Oper} {l : List Oper} {st : St} {K : St → Option R} : aopsK C F dr ops (o :: l) st K = (oone C F dr ops o st).bind fun st' => aopsK C F dr ops l st' K := by
  simp only [aopsK, oone]
  cases o.guard with
  | none => exact aoperK_bind
  | some p =>
    obtain ⟨j, w⟩ := p
    simp only
    cases dstOf ops j with
    | none => rfl
    | some j => exact aoperG_bind

theorem SLe.refl (S : Sto) : SLe S S := fun _ _ h => h
theorem isCv_dropcv (v : AV) : isCv (dropcv v) = false := by cases v <;> rfl
theorem isCv_ofU (t : Nat) (u : U) : isCv (ofU C t u) = false := by unfold ofU; split <;> rfl
theorem isCv_readV (fi : Fn) (r : U) : isCv (readV C fi r) = false := by unfold readV; split <;> first | rfl | exact isCv_ofU _ _

theorem escape_dr {st st1 : St} {o : Op} (h : escape C true st o = some st1) : st1 = st ∧ ∀ st', (∀ x ∈ o.operands, st'.eval x = st.eval x) → escape C true st' o = some st' := by
  unfold escape at h
  split at h
  · rename_i he
    refine ⟨by cases h; rfl, fun st' hs => ?_⟩
    have : (escs o).flatMap (fun x => ownsOf (st'.eval x)) = [] := by
      rw [← he, List.flatMap_def, List.flatMap_def]
      congr 1
      apply List.map_congr_left
      intro x hx
      rw [hs]
      cases o <;> simp [escs] at hx <;> obtain ⟨a, hx⟩ := hx <;> simp only [Op.operands] <;> simp <;> exact ⟨a, hx⟩
    unfold escape
    rw [this]
  · simp at h



def rd : Cls → Bool | .pure | .reads => true | _ => false
theorem aimp_read {st : St} {ev : Operand → AV} {op : Op} {d : Option Nat} (hr : rd (clsOf C op) = true) : aimp C st ev op d = none := by
  cases op with
  | call c =>
    cases d with
    | none =>
      simp only [aimp]
      cases hc : c.callee with
      | builtin b => cases b <;> simp [clsOf, hc, rd] at hr <;> simp
      | _ => simp
    | some d =>
      simp only [aimp]
      cases hc : c.callee with
      | builtin b => cases b <;> simp [clsOf, hc, rd] at hr <;> simp
      | _ => simp
  | convert t1 t2 x =>
    cases d with
    | none => rfl
    | some d =>
      simp only [clsOf] at hr
      split at hr
      · rename_i h1 h2
        simp [aimp, h1, h2]
      · simp [rd] at hr
  | _ => cases d <;> first | rfl | (simp [clsOf, rd] at hr)
/-- an operation that only reads -/
theorem read_step {ops : List Oper} {o : Oper} {st s1 : St} (hr : isRead C o = true) (hg : o.guard = none) (h : oone C F true ops o st = some s1) :
    ∃ v, isCv v = false ∧ s1 = st.put o.dst v ∧ ∀ st', SLe st.sto st'.sto → (∀ x ∈ o.op.operands, st'.eval x = st.eval x) → oone C F true ops o st' = some (st'.put o.dst v) := by
  simp only [oone, hg] at h ⊢
  unfold aoperK at h
  cases he : escape C true st o.op with
  | none => rw [he] at h; cases h
  | some st1 =>
    obtain ⟨rfl, he'⟩ := escape_dr he
    rw [he] at h
    simp only at h
    cases hp : apure C st1 st1.eval o.op with
    | some p =>
      obtain ⟨safe, v⟩ := p
      rw [hp] at h
      simp only at h
      obtain ⟨rfl, h⟩ := cond_some h
      cases h
      refine ⟨_, isCv_dropcv v, rfl, fun st' hle hs => ?_⟩
      unfold aoperK
      rw [he' st' hs]
      simp only [apure_mono hle hs hp, cond_true]
    | none =>
      rw [hp] at h
      simp only at h
      cases hi : aimp C st1 st1.eval o.op o.dst with
      | some p =>
        rw [aimp_read (hr)] at hi
        cases hi
      | none =>
        rw [hi] at h
        simp only at h
        split at h
        · rename_i c hc
          have hr0 := hr
          unfold isRead clsOf at hr
          rw [hc] at hr he' ⊢
          simp only at hr
          cases hcal : c.callee with
          | value f =>
            have hp' : ∀ st' : St, apure C st' st'.eval (.call c) = none := fun st' => by simp [apure, hcal]
            have hi' : ∀ st' : St, aimp C st' st'.eval (.call c) o.dst = none := fun st' => by
              cases hd : o.dst <;> simp [aimp, hcal]
            have hso : ∀ st' : St, (∀ x ∈ (Op.call c).operands, st'.eval x = st1.eval x) → st'.eval f = st1.eval f ∧ c.args.toList.map st'.eval = c.args.toList.map st1.eval := fun st' hs =>
              ⟨hs f (by simp [Op.operands, Call.operands, hcal]), List.map_congr_left fun x hx => hs x (by simp only [Op.operands, Call.operands, hcal]; simp; exact .inr (by simpa using hx))⟩
            have fin : ∀ (x : Option U) (vr : U → AV), (∀ r, isCv (vr r) = false) → (∀ st', SLe st1.sto st'.sto → (∀ x ∈ (Op.call c).operands, st'.eval x = st1.eval x) → ∃ k', acall C F true st' st'.eval c o.dst = some (x, k') ∧ ∀ r, k' r = some (st'.put o.dst (vr r))) →
                ∃ v, isCv v = false ∧ s1 = st1.put o.dst v ∧ ∀ st', SLe st1.sto st'.sto → (∀ x ∈ (Op.call c).operands, st'.eval x = st1.eval x) → aoperK C F true o st' some = some (st'.put o.dst v) := by
              intro x vr hcv hk
              obtain ⟨k0, k1, k2⟩ := hk st1 (SLe.refl _) (fun _ _ => rfl)
              rw [k1] at h
              simp only [k2] at h
              cases x with
              | none => cases h
              | some r =>
                simp only [Option.bind_some, Option.some.injEq] at h
                refine ⟨vr r, hcv r, h.symm, fun st' hle hs => ?_⟩
                obtain ⟨k', k3, k4⟩ := hk st' hle hs
                unfold aoperK
                rw [hc, he' st' hs]
                simp only [hp', hi', k3, k4, Option.bind_some]
            unfold acall at h fin
            simp only [hcal] at h fin
            cases hev : st1.eval f with
            | clo g caps =>
              rw [hev] at h
              simp only at h
              cases hb : drBad C true f g with
              | true => rw [hb] at h; simp at h
              | false =>
                rw [hb] at h
                simp only [cond_false] at h
                cases hcf : callF C F true st1 g caps (c.args.toList.map st1.eval) o.dst with
                | none => rw [hcf] at h; cases h
                | some p =>
                  obtain ⟨x, k⟩ := p
                  cases hfi : C.fn g with
                  | none => simp [callF, hfi] at hcf
                  | some fi =>
                    have ho : fi.own.all Option.isNone = true := by
                      cases f with
                      | func g' =>
                        simp only [St.eval] at hev
                        cases hev
                        rw [hcal] at hr
                        simp only [hfi] at hr
                        cases hh : fi.own.all Option.isNone with
                        | true => rfl
                        | false => rw [hh] at hr; simp at hr
                      | _ => simp only [drBad, hfi, Bool.true_and, Bool.not_eq_false', Bool.and_eq_true] at hb; exact hb.2
                    have hu : fi.out.all Option.isNone = true := by
                      cases f with
                      | func g' =>
                        simp only [St.eval] at hev
                        cases hev
                        rw [hcal] at hr
                        simp only [hfi, ho, cond_true] at hr
                        cases hh : fi.out.all Option.isNone with
                        | true => rfl
                        | false => rw [hh] at hr; simp at hr
                      | _ => simp only [drBad, hfi, Bool.true_and, Bool.not_eq_false', Bool.and_eq_true] at hb; exact hb.1
                    obtain hcr := callF_read hfi ho hu hcf
                    refine fin x (readV C fi) (isCv_readV fi) (fun st' hle hs => ?_)
                    obtain ⟨e1, e2⟩ := hso st' hs
                    obtain ⟨k', k1, k2⟩ := hcr st' hle
                    rw [e1, hev, e2]
                    simp only [hb, cond_false]
                    exact ⟨k', k1, k2⟩
            | fn t u =>
              rw [hev] at h
              simp only at h
              cases hcf : callV C F st1 t u (c.args.toList.map st1.eval) o.dst with
              | none => rw [hcf] at h; cases h
              | some p =>
                obtain ⟨x, k⟩ := p
                obtain ⟨rt, hcr⟩ := callV_read hcf
                refine fin x (fun r => ofU C rt r) (fun r => isCv_ofU _ _) (fun st' hle hs => ?_)
                obtain ⟨e1, e2⟩ := hso st' hs
                rw [e1, hev, e2]
                exact hcr st' hle
            | _ => rw [hev] at h; cases h
          | _ =>
            simp [acall, hcal] at h
        · cases h

end Go.Ab
